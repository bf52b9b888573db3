/- Part 5 of the proof: Wc Wd We Wf Wg Wh Wi Wj Wk Gb Gc Gd Va Vb Za Zb Aa Zc Ac Gf Gg Gh Ge Gi Ej Ea Eb -/
import Derived.ChangeArms
import Derived.OpenShut
import Derived.WideHanded
import Derived.ChangeSame
import Derived.ProofKit
import Derived.LaidMore
import Derived.LaidLaws
import Derived.Stop.Joined
import Derived.MakeChecks
import Derived.Test.YtmepdfingcmkmaaGreatDoorQ4
namespace Go.Proofs.YtmepdfingcmkmaaGreatDoor
open Go Y
set_option maxRecDepth 100000
set_option maxHeartbeats 40000000
abbrev qSO:OT:=(.pure 0 (.pure 1 (.pure 2 (.pure 3 (.pure 4 (.pure 5 (.pure 6 (.pure 7 (.pure 8 (.pure 9 (.pure 10 (.pure 11 .fin))))))))))))
theorem qPB (l:List De) (d:De) {op n rel val:Int} {r:Rf} {st:List Int} {ar:List Cd} (hn:r.name ≠ []) (hst:op=5->1<=st.length) (hsl:st.length<=100) (hdr:d.refs.length<=100) (hl:l.length<=1000) (hok:∀ d∈l,OkD d):Pure cx 121 [des l,d.pv,(Cd.mk op n rel val r st ar).pv] (·=.ret [i64 (qDQ l d op n val r st)]):=by
 obtain⟨R,hR⟩:∃ R,R=qDQ l d op n val r st:=⟨_,rfl⟩
 rw [<- hR]
 have hK:=qPH l d r hl hok
 obtain⟨dk,dn,dnm,dpl,drs,dcs⟩:=d
 have hdr:drs.length<=100:=hdr
 rw [qDQ,qSv] at hR
 rw [skS] at hK
 cases hv:qCR l r.name with
 | none=>
  rw [qGY hv] at hK
  rw [hv] at hR
  simp only [] at hR hK
  by_cases ho:ownB ⟨dk,dn,dnm,dpl,drs,dcs⟩ r=true
  ·have hk3:dk=3:=(qEj.1 ho).1
   have hk2:¬ dk=2:=by omega
   simp only [if_pos ho] at hR hK
   rw [skV] at hK
   try simp only [] at hK
   obtain⟨kk,hkk⟩:∃ kk,kk=dn:=⟨_,rfl⟩
   rw [<- hkk] at hR
   generalize qBT l dpl=sz at hK
   clear hv ho
   subst hkk
   refine qAB Tryz.func121 rfl rfl rfl ?_
   refine⟨Nat × Bool,fun x=>[(0, .p (des l)),(4, .ptr 0 0 0),(5, .ptr 1 0 0),(7, .p (.bool x.2)),(8, .p (i64 x.1))],fun _=>⟨2,[(1,cnO (.mk op n rel val r st ar)),(0,dcO ⟨dk,kk,dnm,dpl,drs,dcs⟩)]⟩,fun x=>x.1<=drs.length/\x.2=decide (r∈drs.take x.1),fun x=>drs.length - x.1,?_,?_⟩
   ·exact⟨(0,false),⟨Nat.zero_le _,by simp⟩,qAA [] [] [] rfl (sk) (sk) rfl⟩
   rintro⟨k,b⟩ ⟨k1,k2⟩
   simp only [] at k1 k2
   refine QAD (fun m1=>?_) (fun m1=>?_)
   ·have m1:(k:Int)<((drs.map Rf.cells).length:Nat):=m1
    rw [List.length_map] at m1
    have hk:k<drs.length:=by omega
    have hcell:=qC6 hk
    have hnx:(r∈drs.take (k+1)) ↔ (r∈drs.take k∨r=drs.getD k rf0):=by rw [qAE rf0 hk,List.mem_append,List.mem_singleton]
    generalize drs.getD k rf0=x at hcell hnx
    cases b
    ·refine qAG qSO (by kernel_rfl) ?_
     refine⟨_,⟨by omega,x.cells,hcell,rfl⟩,?_⟩
     refine⟨⟨by kernel_rfl,by kernel_rfl⟩,fun e1=>?_,fun e1=>?_⟩
     ·have e1:x=r:=qDk (by first | exact e1 | (injection e1))
      refine⟨_,w6z,?_⟩
      exact⟨(k+1,true),⟨by show k+1<=drs.length;omega,(decide_eq_true (hnx.2 (.inr e1.symm))).symm⟩,qAA [] [] [] rfl (sk) (sk) rfl,by show drs.length - (k+1)<drs.length - k;omega⟩
     ·have e1:¬ x=r:=fun e=>e1 (by rw [e])
      have hno:¬ r∈drs.take k:=of_decide_eq_false k2.symm
      refine⟨_,w6z,?_⟩
      exact⟨(k+1,false),⟨by show k+1<=drs.length;omega,(decide_eq_false (fun h=>(hnx.1 h).elim hno fun e=>e1 e.symm)).symm⟩,qAA [] [] [] rfl (sk) (sk) rfl,by show drs.length - (k+1)<drs.length - k;omega⟩
    ·have hyes:r∈drs.take k:=of_decide_eq_true k2.symm
     refine qAG qSO (by kernel_rfl) ?_
     refine⟨_,w6z,?_⟩
     exact⟨(k+1,true),⟨by show k+1<=drs.length;omega,(decide_eq_true (hnx.2 (.inl hyes))).symm⟩,qAA [] [] [] rfl (sk) (sk) rfl,by show drs.length - (k+1)<drs.length - k;omega⟩
   have m1:¬ (k:Int)<((drs.map Rf.cells).length:Nat):=m1
   rw [List.length_map] at m1
   rw [qAc (by omega)] at k2
   cases b
   ·have hno:¬ r∈drs:=of_decide_eq_false k2.symm
    rw [if_pos hno] at hR
    exact qAF _ rfl rfl (qBD hR.symm)
   have hmem:r∈drs:=of_decide_eq_true k2.symm
   rw [if_neg (fun h=>h hmem)] at hR
   refine QAD (fun md=>?_) (fun md=>?_)
   ·have md:r.mode=3:=md
    refine QAD (fun o6=>?_) (fun o6=>?_)
    rotate_left
    ·have o6:¬ op=6:=o6
     rw [if_pos ⟨md,o6⟩] at hR
     exact qAF _ rfl rfl (qBD hR.symm)
    have o6:op=6:=o6
    rw [if_neg (fun h=>h.2 o6)] at hR
    refine QAD (fun o5=>?_) (fun o5=>?_)
    ·have o5:op=5:=o5
     obtain⟨m,hm⟩:∃ m:Nat,st.length=m+1:=⟨st.length - 1,by have:=hst o5;omega⟩
     have hm1:((st.map i64).length:Int) - 1=(m:Nat):=by rw [List.length_map];omega
     have hmd:st.length - 1=m:=by omega
     refine⟨((m:Nat):Int),by show _=IntKind.i64.wrap (((st.map i64).length:Nat) - 1:Int);rw [hm1];exact w6z,?_⟩
     refine⟨_,⟨by omega,i64 (st.getD m 0),qCQ (by omega),rfl⟩,?_⟩
     have hg:qDs op n val st=st.getD m 0:=by rw [qDs,if_pos o5,hmd]
     refine hK.eq rfl ?_
     refine And.intro (fun h=>absurd h hk2) (fun _=>?_)
     refine QAD (fun w1=>?_) (fun w1=>?_)
     ·have w1:kk<=st.getD m 0:=w1
      exact qAF _ rfl rfl (qBD (by rw [hR,hg,if_pos w1]))
     ·have w1:¬ kk<=st.getD m 0:=w1
      exact qAF _ rfl rfl (qBD (by rw [hR,hg,if_neg w1]))
    have o5:¬ op=5:=o5
    refine QAD (fun p6=>?_) (fun p6=>?_)
    ·have p6:op=6:=p6
     have hg:qDs op n val st=val:=by rw [qDs,if_neg o5,if_pos p6]
     refine hK.eq rfl ?_
     refine And.intro (fun h=>absurd h hk2) (fun _=>?_)
     refine QAD (fun w1=>?_) (fun w1=>?_)
     ·have w1:kk<=val:=w1
      exact qAF _ rfl rfl (qBD (by rw [hR,hg,if_pos w1]))
     ·have w1:¬ kk<=val:=w1
      exact qAF _ rfl rfl (qBD (by rw [hR,hg,if_neg w1]))
    have p6:¬ op=6:=p6
    have hg:qDs op n val st=n:=by rw [qDs,if_neg o5,if_neg p6]
    refine hK.eq rfl ?_
    refine And.intro (fun h=>absurd h hk2) (fun _=>?_)
    refine QAD (fun w1=>?_) (fun w1=>?_)
    ·have w1:kk<=n:=w1
     exact qAF _ rfl rfl (qBD (by rw [hR,hg,if_pos w1]))
    ·have w1:¬ kk<=n:=w1
     exact qAF _ rfl rfl (qBD (by rw [hR,hg,if_neg w1]))
   have md:¬ r.mode=3:=md
   rw [if_neg (fun h=>md h.1)] at hR
   refine QAD (fun o5=>?_) (fun o5=>?_)
   ·have o5:op=5:=o5
    obtain⟨m,hm⟩:∃ m:Nat,st.length=m+1:=⟨st.length - 1,by have:=hst o5;omega⟩
    have hm1:((st.map i64).length:Int) - 1=(m:Nat):=by rw [List.length_map];omega
    have hmd:st.length - 1=m:=by omega
    refine⟨((m:Nat):Int),by show _=IntKind.i64.wrap (((st.map i64).length:Nat) - 1:Int);rw [hm1];exact w6z,?_⟩
    refine⟨_,⟨by omega,i64 (st.getD m 0),qCQ (by omega),rfl⟩,?_⟩
    have hg:qDs op n val st=st.getD m 0:=by rw [qDs,if_pos o5,hmd]
    refine hK.eq rfl ?_
    refine And.intro (fun h=>absurd h hk2) (fun _=>?_)
    refine QAD (fun w1=>?_) (fun w1=>?_)
    ·have w1:kk<=st.getD m 0:=w1
     exact qAF _ rfl rfl (qBD (by rw [hR,hg,if_pos w1]))
    ·have w1:¬ kk<=st.getD m 0:=w1
     exact qAF _ rfl rfl (qBD (by rw [hR,hg,if_neg w1]))
   have o5:¬ op=5:=o5
   refine QAD (fun p6=>?_) (fun p6=>?_)
   ·have p6:op=6:=p6
    have hg:qDs op n val st=val:=by rw [qDs,if_neg o5,if_pos p6]
    refine hK.eq rfl ?_
    refine And.intro (fun h=>absurd h hk2) (fun _=>?_)
    refine QAD (fun w1=>?_) (fun w1=>?_)
    ·have w1:kk<=val:=w1
     exact qAF _ rfl rfl (qBD (by rw [hR,hg,if_pos w1]))
    ·have w1:¬ kk<=val:=w1
     exact qAF _ rfl rfl (qBD (by rw [hR,hg,if_neg w1]))
   have p6:¬ op=6:=p6
   have hg:qDs op n val st=n:=by rw [qDs,if_neg o5,if_neg p6]
   refine hK.eq rfl ?_
   refine And.intro (fun h=>absurd h hk2) (fun _=>?_)
   refine QAD (fun w1=>?_) (fun w1=>?_)
   ·have w1:kk<=n:=w1
    exact qAF _ rfl rfl (qBD (by rw [hR,hg,if_pos w1]))
   ·have w1:¬ kk<=n:=w1
    exact qAF _ rfl rfl (qBD (by rw [hR,hg,if_neg w1]))
  ·simp only [if_neg ho] at hR hK
   rw [skV] at hK
   try simp only [] at hK
   clear hv ho
   refine qAB Tryz.func121 rfl rfl rfl ?_
   refine⟨Nat × Bool,fun x=>[(0, .p (des l)),(4, .ptr 0 0 0),(5, .ptr 1 0 0),(7, .p (.bool x.2)),(8, .p (i64 x.1))],fun _=>⟨2,[(1,cnO (.mk op n rel val r st ar)),(0,dcO ⟨dk,dn,dnm,dpl,drs,dcs⟩)]⟩,fun x=>x.1<=drs.length/\x.2=decide (r∈drs.take x.1),fun x=>drs.length - x.1,?_,?_⟩
   ·exact⟨(0,false),⟨Nat.zero_le _,by simp⟩,qAA [] [] [] rfl (sk) (sk) rfl⟩
   rintro⟨k,b⟩ ⟨k1,k2⟩
   simp only [] at k1 k2
   refine QAD (fun m1=>?_) (fun m1=>?_)
   ·have m1:(k:Int)<((drs.map Rf.cells).length:Nat):=m1
    rw [List.length_map] at m1
    have hk:k<drs.length:=by omega
    have hcell:=qC6 hk
    have hnx:(r∈drs.take (k+1)) ↔ (r∈drs.take k∨r=drs.getD k rf0):=by rw [qAE rf0 hk,List.mem_append,List.mem_singleton]
    generalize drs.getD k rf0=x at hcell hnx
    cases b
    ·refine qAG qSO (by kernel_rfl) ?_
     refine⟨_,⟨by omega,x.cells,hcell,rfl⟩,?_⟩
     refine⟨⟨by kernel_rfl,by kernel_rfl⟩,fun e1=>?_,fun e1=>?_⟩
     ·have e1:x=r:=qDk (by first | exact e1 | (injection e1))
      refine⟨_,w6z,?_⟩
      exact⟨(k+1,true),⟨by show k+1<=drs.length;omega,(decide_eq_true (hnx.2 (.inr e1.symm))).symm⟩,qAA [] [] [] rfl (sk) (sk) rfl,by show drs.length - (k+1)<drs.length - k;omega⟩
     ·have e1:¬ x=r:=fun e=>e1 (by rw [e])
      have hno:¬ r∈drs.take k:=of_decide_eq_false k2.symm
      refine⟨_,w6z,?_⟩
      exact⟨(k+1,false),⟨by show k+1<=drs.length;omega,(decide_eq_false (fun h=>(hnx.1 h).elim hno fun e=>e1 e.symm)).symm⟩,qAA [] [] [] rfl (sk) (sk) rfl,by show drs.length - (k+1)<drs.length - k;omega⟩
    ·have hyes:r∈drs.take k:=of_decide_eq_true k2.symm
     refine qAG qSO (by kernel_rfl) ?_
     refine⟨_,w6z,?_⟩
     exact⟨(k+1,true),⟨by show k+1<=drs.length;omega,(decide_eq_true (hnx.2 (.inl hyes))).symm⟩,qAA [] [] [] rfl (sk) (sk) rfl,by show drs.length - (k+1)<drs.length - k;omega⟩
   have m1:¬ (k:Int)<((drs.map Rf.cells).length:Nat):=m1
   rw [List.length_map] at m1
   rw [qAc (by omega)] at k2
   cases b
   ·have hno:¬ r∈drs:=of_decide_eq_false k2.symm
    rw [if_pos hno] at hR
    exact qAF _ rfl rfl (qBD hR.symm)
   have hmem:r∈drs:=of_decide_eq_true k2.symm
   rw [if_neg (fun h=>h hmem)] at hR
   refine QAD (fun md=>?_) (fun md=>?_)
   ·have md:r.mode=3:=md
    refine QAD (fun o6=>?_) (fun o6=>?_)
    rotate_left
    ·have o6:¬ op=6:=o6
     rw [if_pos ⟨md,o6⟩] at hR
     exact qAF _ rfl rfl (qBD hR.symm)
    have o6:op=6:=o6
    rw [if_neg (fun h=>h.2 o6)] at hR
    refine QAD (fun o5=>?_) (fun o5=>?_)
    ·have o5:op=5:=o5
     obtain⟨m,hm⟩:∃ m:Nat,st.length=m+1:=⟨st.length - 1,by have:=hst o5;omega⟩
     have hm1:((st.map i64).length:Int) - 1=(m:Nat):=by rw [List.length_map];omega
     have hmd:st.length - 1=m:=by omega
     refine⟨((m:Nat):Int),by show _=IntKind.i64.wrap (((st.map i64).length:Nat) - 1:Int);rw [hm1];exact w6z,?_⟩
     refine⟨_,⟨by omega,i64 (st.getD m 0),qCQ (by omega),rfl⟩,?_⟩
     refine hK.eq rfl ?_
     exact qAF _ rfl rfl (qBD hR.symm)
    have o5:¬ op=5:=o5
    refine QAD (fun p6=>?_) (fun p6=>?_)
    ·have p6:op=6:=p6
     refine hK.eq rfl ?_
     exact qAF _ rfl rfl (qBD hR.symm)
    have p6:¬ op=6:=p6
    refine hK.eq rfl ?_
    exact qAF _ rfl rfl (qBD hR.symm)
   have md:¬ r.mode=3:=md
   rw [if_neg (fun h=>md h.1)] at hR
   refine QAD (fun o5=>?_) (fun o5=>?_)
   ·have o5:op=5:=o5
    obtain⟨m,hm⟩:∃ m:Nat,st.length=m+1:=⟨st.length - 1,by have:=hst o5;omega⟩
    have hm1:((st.map i64).length:Int) - 1=(m:Nat):=by rw [List.length_map];omega
    have hmd:st.length - 1=m:=by omega
    refine⟨((m:Nat):Int),by show _=IntKind.i64.wrap (((st.map i64).length:Nat) - 1:Int);rw [hm1];exact w6z,?_⟩
    refine⟨_,⟨by omega,i64 (st.getD m 0),qCQ (by omega),rfl⟩,?_⟩
    refine hK.eq rfl ?_
    exact qAF _ rfl rfl (qBD hR.symm)
   have o5:¬ op=5:=o5
   refine QAD (fun p6=>?_) (fun p6=>?_)
   ·have p6:op=6:=p6
    refine hK.eq rfl ?_
    exact qAF _ rfl rfl (qBD hR.symm)
   have p6:¬ op=6:=p6
   refine hK.eq rfl ?_
   exact qAF _ rfl rfl (qBD hR.symm)
 | some t=>
  obtain⟨a,ha⟩:=qGX hn hv
  rw [ha] at hK
  rw [hv] at hR
  simp only [] at hR hK
  rw [skV,qCH] at hK
  by_cases k2:t.kind=2
  ·rw [if_pos k2] at hK
   simp only [if_pos k2] at hR
   try simp only [] at hK
   clear hv ha
   refine qAB Tryz.func121 rfl rfl rfl ?_
   refine⟨Nat × Bool,fun x=>[(0, .p (des l)),(4, .ptr 0 0 0),(5, .ptr 1 0 0),(7, .p (.bool x.2)),(8, .p (i64 x.1))],fun _=>⟨2,[(1,cnO (.mk op n rel val r st ar)),(0,dcO ⟨dk,dn,dnm,dpl,drs,dcs⟩)]⟩,fun x=>x.1<=drs.length/\x.2=decide (r∈drs.take x.1),fun x=>drs.length - x.1,?_,?_⟩
   ·exact⟨(0,false),⟨Nat.zero_le _,by simp⟩,qAA [] [] [] rfl (sk) (sk) rfl⟩
   rintro⟨k,b⟩ ⟨k1,k2⟩
   simp only [] at k1 k2
   refine QAD (fun m1=>?_) (fun m1=>?_)
   ·have m1:(k:Int)<((drs.map Rf.cells).length:Nat):=m1
    rw [List.length_map] at m1
    have hk:k<drs.length:=by omega
    have hcell:=qC6 hk
    have hnx:(r∈drs.take (k+1)) ↔ (r∈drs.take k∨r=drs.getD k rf0):=by rw [qAE rf0 hk,List.mem_append,List.mem_singleton]
    generalize drs.getD k rf0=x at hcell hnx
    cases b
    ·refine qAG qSO (by kernel_rfl) ?_
     refine⟨_,⟨by omega,x.cells,hcell,rfl⟩,?_⟩
     refine⟨⟨by kernel_rfl,by kernel_rfl⟩,fun e1=>?_,fun e1=>?_⟩
     ·have e1:x=r:=qDk (by first | exact e1 | (injection e1))
      refine⟨_,w6z,?_⟩
      exact⟨(k+1,true),⟨by show k+1<=drs.length;omega,(decide_eq_true (hnx.2 (.inr e1.symm))).symm⟩,qAA [] [] [] rfl (sk) (sk) rfl,by show drs.length - (k+1)<drs.length - k;omega⟩
     ·have e1:¬ x=r:=fun e=>e1 (by rw [e])
      have hno:¬ r∈drs.take k:=of_decide_eq_false k2.symm
      refine⟨_,w6z,?_⟩
      exact⟨(k+1,false),⟨by show k+1<=drs.length;omega,(decide_eq_false (fun h=>(hnx.1 h).elim hno fun e=>e1 e.symm)).symm⟩,qAA [] [] [] rfl (sk) (sk) rfl,by show drs.length - (k+1)<drs.length - k;omega⟩
    ·have hyes:r∈drs.take k:=of_decide_eq_true k2.symm
     refine qAG qSO (by kernel_rfl) ?_
     refine⟨_,w6z,?_⟩
     exact⟨(k+1,true),⟨by show k+1<=drs.length;omega,(decide_eq_true (hnx.2 (.inl hyes))).symm⟩,qAA [] [] [] rfl (sk) (sk) rfl,by show drs.length - (k+1)<drs.length - k;omega⟩
   have m1:¬ (k:Int)<((drs.map Rf.cells).length:Nat):=m1
   rw [List.length_map] at m1
   rw [qAc (by omega)] at k2
   cases b
   ·have hno:¬ r∈drs:=of_decide_eq_false k2.symm
    rw [if_pos hno] at hR
    exact qAF _ rfl rfl (qBD hR.symm)
   have hmem:r∈drs:=of_decide_eq_true k2.symm
   rw [if_neg (fun h=>h hmem)] at hR
   refine QAD (fun md=>?_) (fun md=>?_)
   ·have md:r.mode=3:=md
    refine QAD (fun o6=>?_) (fun o6=>?_)
    rotate_left
    ·have o6:¬ op=6:=o6
     rw [if_pos ⟨md,o6⟩] at hR
     exact qAF _ rfl rfl (qBD hR.symm)
    have o6:op=6:=o6
    rw [if_neg (fun h=>h.2 o6)] at hR
    refine QAD (fun o5=>?_) (fun o5=>?_)
    ·have o5:op=5:=o5
     obtain⟨m,hm⟩:∃ m:Nat,st.length=m+1:=⟨st.length - 1,by have:=hst o5;omega⟩
     have hm1:((st.map i64).length:Int) - 1=(m:Nat):=by rw [List.length_map];omega
     have hmd:st.length - 1=m:=by omega
     refine⟨((m:Nat):Int),by show _=IntKind.i64.wrap (((st.map i64).length:Nat) - 1:Int);rw [hm1];exact w6z,?_⟩
     refine⟨_,⟨by omega,i64 (st.getD m 0),qCQ (by omega),rfl⟩,?_⟩
     refine hK.eq rfl ?_
     refine And.intro (fun _=>?_) (fun h=>absurd rfl h)
     exact qAF _ rfl rfl (qBD hR.symm)
    have o5:¬ op=5:=o5
    refine QAD (fun p6=>?_) (fun p6=>?_)
    ·have p6:op=6:=p6
     refine hK.eq rfl ?_
     refine And.intro (fun _=>?_) (fun h=>absurd rfl h)
     exact qAF _ rfl rfl (qBD hR.symm)
    have p6:¬ op=6:=p6
    refine hK.eq rfl ?_
    refine And.intro (fun _=>?_) (fun h=>absurd rfl h)
    exact qAF _ rfl rfl (qBD hR.symm)
   have md:¬ r.mode=3:=md
   rw [if_neg (fun h=>md h.1)] at hR
   refine QAD (fun o5=>?_) (fun o5=>?_)
   ·have o5:op=5:=o5
    obtain⟨m,hm⟩:∃ m:Nat,st.length=m+1:=⟨st.length - 1,by have:=hst o5;omega⟩
    have hm1:((st.map i64).length:Int) - 1=(m:Nat):=by rw [List.length_map];omega
    have hmd:st.length - 1=m:=by omega
    refine⟨((m:Nat):Int),by show _=IntKind.i64.wrap (((st.map i64).length:Nat) - 1:Int);rw [hm1];exact w6z,?_⟩
    refine⟨_,⟨by omega,i64 (st.getD m 0),qCQ (by omega),rfl⟩,?_⟩
    refine hK.eq rfl ?_
    refine And.intro (fun _=>?_) (fun h=>absurd rfl h)
    exact qAF _ rfl rfl (qBD hR.symm)
   have o5:¬ op=5:=o5
   refine QAD (fun p6=>?_) (fun p6=>?_)
   ·have p6:op=6:=p6
    refine hK.eq rfl ?_
    refine And.intro (fun _=>?_) (fun h=>absurd rfl h)
    exact qAF _ rfl rfl (qBD hR.symm)
   have p6:¬ op=6:=p6
   refine hK.eq rfl ?_
   refine And.intro (fun _=>?_) (fun h=>absurd rfl h)
   exact qAF _ rfl rfl (qBD hR.symm)
  ·rw [if_neg k2] at hK
   simp only [if_neg k2] at hR
   try simp only [] at hK
   generalize (if t.plate=[] then 1 else qBT a t.plate)=sz at hK
   obtain⟨tk,kk,tnm,tpl,trs,tcs⟩:=t
   simp only [] at hR hK k2
   have hk2:=k2
   clear hv ha k2
   refine qAB Tryz.func121 rfl rfl rfl ?_
   refine⟨Nat × Bool,fun x=>[(0, .p (des l)),(4, .ptr 0 0 0),(5, .ptr 1 0 0),(7, .p (.bool x.2)),(8, .p (i64 x.1))],fun _=>⟨2,[(1,cnO (.mk op n rel val r st ar)),(0,dcO ⟨dk,dn,dnm,dpl,drs,dcs⟩)]⟩,fun x=>x.1<=drs.length/\x.2=decide (r∈drs.take x.1),fun x=>drs.length - x.1,?_,?_⟩
   ·exact⟨(0,false),⟨Nat.zero_le _,by simp⟩,qAA [] [] [] rfl (sk) (sk) rfl⟩
   rintro⟨k,b⟩ ⟨k1,k2⟩
   simp only [] at k1 k2
   refine QAD (fun m1=>?_) (fun m1=>?_)
   ·have m1:(k:Int)<((drs.map Rf.cells).length:Nat):=m1
    rw [List.length_map] at m1
    have hk:k<drs.length:=by omega
    have hcell:=qC6 hk
    have hnx:(r∈drs.take (k+1)) ↔ (r∈drs.take k∨r=drs.getD k rf0):=by rw [qAE rf0 hk,List.mem_append,List.mem_singleton]
    generalize drs.getD k rf0=x at hcell hnx
    cases b
    ·refine qAG qSO (by kernel_rfl) ?_
     refine⟨_,⟨by omega,x.cells,hcell,rfl⟩,?_⟩
     refine⟨⟨by kernel_rfl,by kernel_rfl⟩,fun e1=>?_,fun e1=>?_⟩
     ·have e1:x=r:=qDk (by first | exact e1 | (injection e1))
      refine⟨_,w6z,?_⟩
      exact⟨(k+1,true),⟨by show k+1<=drs.length;omega,(decide_eq_true (hnx.2 (.inr e1.symm))).symm⟩,qAA [] [] [] rfl (sk) (sk) rfl,by show drs.length - (k+1)<drs.length - k;omega⟩
     ·have e1:¬ x=r:=fun e=>e1 (by rw [e])
      have hno:¬ r∈drs.take k:=of_decide_eq_false k2.symm
      refine⟨_,w6z,?_⟩
      exact⟨(k+1,false),⟨by show k+1<=drs.length;omega,(decide_eq_false (fun h=>(hnx.1 h).elim hno fun e=>e1 e.symm)).symm⟩,qAA [] [] [] rfl (sk) (sk) rfl,by show drs.length - (k+1)<drs.length - k;omega⟩
    ·have hyes:r∈drs.take k:=of_decide_eq_true k2.symm
     refine qAG qSO (by kernel_rfl) ?_
     refine⟨_,w6z,?_⟩
     exact⟨(k+1,true),⟨by show k+1<=drs.length;omega,(decide_eq_true (hnx.2 (.inl hyes))).symm⟩,qAA [] [] [] rfl (sk) (sk) rfl,by show drs.length - (k+1)<drs.length - k;omega⟩
   have m1:¬ (k:Int)<((drs.map Rf.cells).length:Nat):=m1
   rw [List.length_map] at m1
   rw [qAc (by omega)] at k2
   cases b
   ·have hno:¬ r∈drs:=of_decide_eq_false k2.symm
    rw [if_pos hno] at hR
    exact qAF _ rfl rfl (qBD hR.symm)
   have hmem:r∈drs:=of_decide_eq_true k2.symm
   rw [if_neg (fun h=>h hmem)] at hR
   refine QAD (fun md=>?_) (fun md=>?_)
   ·have md:r.mode=3:=md
    refine QAD (fun o6=>?_) (fun o6=>?_)
    rotate_left
    ·have o6:¬ op=6:=o6
     rw [if_pos ⟨md,o6⟩] at hR
     exact qAF _ rfl rfl (qBD hR.symm)
    have o6:op=6:=o6
    rw [if_neg (fun h=>h.2 o6)] at hR
    refine QAD (fun o5=>?_) (fun o5=>?_)
    ·have o5:op=5:=o5
     obtain⟨m,hm⟩:∃ m:Nat,st.length=m+1:=⟨st.length - 1,by have:=hst o5;omega⟩
     have hm1:((st.map i64).length:Int) - 1=(m:Nat):=by rw [List.length_map];omega
     have hmd:st.length - 1=m:=by omega
     refine⟨((m:Nat):Int),by show _=IntKind.i64.wrap (((st.map i64).length:Nat) - 1:Int);rw [hm1];exact w6z,?_⟩
     refine⟨_,⟨by omega,i64 (st.getD m 0),qCQ (by omega),rfl⟩,?_⟩
     have hg:qDs op n val st=st.getD m 0:=by rw [qDs,if_pos o5,hmd]
     refine hK.eq rfl ?_
     refine And.intro (fun h=>absurd h hk2) (fun _=>?_)
     refine QAD (fun w1=>?_) (fun w1=>?_)
     ·have w1:kk<=st.getD m 0:=w1
      exact qAF _ rfl rfl (qBD (by rw [hR,hg,if_pos w1]))
     ·have w1:¬ kk<=st.getD m 0:=w1
      exact qAF _ rfl rfl (qBD (by rw [hR,hg,if_neg w1]))
    have o5:¬ op=5:=o5
    refine QAD (fun p6=>?_) (fun p6=>?_)
    ·have p6:op=6:=p6
     have hg:qDs op n val st=val:=by rw [qDs,if_neg o5,if_pos p6]
     refine hK.eq rfl ?_
     refine And.intro (fun h=>absurd h hk2) (fun _=>?_)
     refine QAD (fun w1=>?_) (fun w1=>?_)
     ·have w1:kk<=val:=w1
      exact qAF _ rfl rfl (qBD (by rw [hR,hg,if_pos w1]))
     ·have w1:¬ kk<=val:=w1
      exact qAF _ rfl rfl (qBD (by rw [hR,hg,if_neg w1]))
    have p6:¬ op=6:=p6
    have hg:qDs op n val st=n:=by rw [qDs,if_neg o5,if_neg p6]
    refine hK.eq rfl ?_
    refine And.intro (fun h=>absurd h hk2) (fun _=>?_)
    refine QAD (fun w1=>?_) (fun w1=>?_)
    ·have w1:kk<=n:=w1
     exact qAF _ rfl rfl (qBD (by rw [hR,hg,if_pos w1]))
    ·have w1:¬ kk<=n:=w1
     exact qAF _ rfl rfl (qBD (by rw [hR,hg,if_neg w1]))
   have md:¬ r.mode=3:=md
   rw [if_neg (fun h=>md h.1)] at hR
   refine QAD (fun o5=>?_) (fun o5=>?_)
   ·have o5:op=5:=o5
    obtain⟨m,hm⟩:∃ m:Nat,st.length=m+1:=⟨st.length - 1,by have:=hst o5;omega⟩
    have hm1:((st.map i64).length:Int) - 1=(m:Nat):=by rw [List.length_map];omega
    have hmd:st.length - 1=m:=by omega
    refine⟨((m:Nat):Int),by show _=IntKind.i64.wrap (((st.map i64).length:Nat) - 1:Int);rw [hm1];exact w6z,?_⟩
    refine⟨_,⟨by omega,i64 (st.getD m 0),qCQ (by omega),rfl⟩,?_⟩
    have hg:qDs op n val st=st.getD m 0:=by rw [qDs,if_pos o5,hmd]
    refine hK.eq rfl ?_
    refine And.intro (fun h=>absurd h hk2) (fun _=>?_)
    refine QAD (fun w1=>?_) (fun w1=>?_)
    ·have w1:kk<=st.getD m 0:=w1
     exact qAF _ rfl rfl (qBD (by rw [hR,hg,if_pos w1]))
    ·have w1:¬ kk<=st.getD m 0:=w1
     exact qAF _ rfl rfl (qBD (by rw [hR,hg,if_neg w1]))
   have o5:¬ op=5:=o5
   refine QAD (fun p6=>?_) (fun p6=>?_)
   ·have p6:op=6:=p6
    have hg:qDs op n val st=val:=by rw [qDs,if_neg o5,if_pos p6]
    refine hK.eq rfl ?_
    refine And.intro (fun h=>absurd h hk2) (fun _=>?_)
    refine QAD (fun w1=>?_) (fun w1=>?_)
    ·have w1:kk<=val:=w1
     exact qAF _ rfl rfl (qBD (by rw [hR,hg,if_pos w1]))
    ·have w1:¬ kk<=val:=w1
     exact qAF _ rfl rfl (qBD (by rw [hR,hg,if_neg w1]))
   have p6:¬ op=6:=p6
   have hg:qDs op n val st=n:=by rw [qDs,if_neg o5,if_neg p6]
   refine hK.eq rfl ?_
   refine And.intro (fun h=>absurd h hk2) (fun _=>?_)
   refine QAD (fun w1=>?_) (fun w1=>?_)
   ·have w1:kk<=n:=w1
    exact qAF _ rfl rfl (qBD (by rw [hR,hg,if_pos w1]))
   ·have w1:¬ kk<=n:=w1
    exact qAF _ rfl rfl (qBD (by rw [hR,hg,if_neg w1]))
theorem qGP (d:De) (nums:List Int) (g:Int) (hw:∀ x∈nums,-9999<=x/\x<=9999) (hl:nums.length<=100):Pure cx 95 [d.pv,ints nums,i64 g] (·=.ret [.bool (qI2 d nums g)]):=by
 obtain⟨R,hR⟩:∃ R,R=qI2 d nums g:=⟨_,rfl⟩
 rw [<- hR]
 have hm:(nums.map i64).length=nums.length:=List.length_map ..
 obtain⟨dk,dn,dnm,dpl,drs,dcs⟩:=d
 by_cases hk:dk=5
 ·rw [qJ5 hk] at hR
  refine qAB Tryz.func95 rfl rfl rfl ?_
  refine And.intro (fun _=>?_) (fun h=>absurd hk h)
  refine QAD (fun h1=>?_) (fun h1=>?_)
  rotate_left
  ·have h1:¬ ((nums.map i64).length:Int)=1:=h1
   rw [hm] at h1
   exact qAF _ rfl rfl (qAO (by rw [hR,decide_eq_false (show ¬ nums.length=1 by omega)];rfl))
  have h1:((nums.map i64).length:Int)=1:=h1
  rw [hm] at h1
  rw [decide_eq_true (show nums.length=1 by omega)] at hR
  have hc:=qCQ (l:=nums) (k:=0) (by omega)
  generalize nums.getD 0 0=x at hc hR
  refine⟨_,⟨by decide,i64 x,hc,rfl⟩,?_⟩
  refine QAD (fun h2=>?_) (fun h2=>?_)
  rotate_left
  ·have h2:¬ -100<=x:=h2
   exact qAF _ rfl rfl (qAO (by rw [hR,decide_eq_false h2];rfl))
  have h2:-100<=x:=h2
  refine⟨_,⟨by decide,i64 x,hc,rfl⟩,?_⟩
  refine QAD (fun h3=>?_) (fun h3=>?_)
  ·have h3:x<=100:=h3
   exact qAF _ rfl rfl (qAO (by rw [hR,decide_eq_true h2,decide_eq_true h3];rfl))
  ·have h3:¬ x<=100:=h3
   exact qAF _ rfl rfl (qAO (by rw [hR,decide_eq_true h2,decide_eq_false h3];rfl))
 rw [qJ4 hk] at hR
 simp only [] at hR
 refine qAB Tryz.func95 rfl rfl rfl ?_
 refine And.intro (fun h=>absurd h hk) (fun _=>?_)
 refine⟨Nat,fun k=>[(1, .p (ints nums)),(2, .p (i64 g)),(3, .ptr 0 0 0),(7, .p (i64 (nums.take k).sum)),(8, .p (i64 k))],fun _=>⟨1,[(0,dcO ⟨dk,dn,dnm,dpl,drs,dcs⟩)]⟩,fun k=>k<=nums.length/\(∀ x∈nums.take k,0<=x)/\(nums.take k).sum<=9999 * k/\0<=(nums.take k).sum,fun k=>nums.length - k,?_,?_⟩
 ·exact⟨0,⟨Nat.zero_le _,by simp,by simp,by simp⟩,qAA [] [] [] rfl (sk) (sk) rfl⟩
 rintro k ⟨k1,k2,k3,k4⟩
 refine QAD (fun m1=>?_) (fun m1=>?_)
 ·have m1:(k:Int)<((nums.map i64).length:Nat):=m1
  rw [hm] at m1
  have hkk:k<nums.length:=by omega
  have hc:=qCQ hkk
  have hx:=hw _ (qAI 0 hkk)
  have hs:=qMZ nums k hkk
  have hmem:=qAI 0 hkk
  have hnx:∀ y∈nums.take (k+1),y=nums.getD k 0∨y∈nums.take k:=fun y hy=>by
   rw [qAE 0 hkk] at hy
   rcases List.mem_append.1 hy with hy | hy
   ·exact .inr hy
   ·exact .inl (List.mem_singleton.1 hy)
  generalize nums.getD k 0=x at hc hx hs hmem hnx
  refine⟨_,⟨by omega,i64 x,hc,rfl⟩,?_⟩
  refine QAD (fun w1=>?_) (fun w1=>?_)
  ·have w1:x<0:=w1
   exact qAF _ rfl rfl (qAO (by rw [hR,List.all_eq_false.2 ⟨x,hmem,by simp;omega⟩];rfl))
  have w1:¬ x<0:=w1
  refine⟨_,⟨by omega,i64 x,hc,rfl⟩,?_⟩
  refine⟨(nums.take (k+1)).sum,by rw [hs];exact w6z,?_⟩
  refine⟨_,w6z,?_⟩
  refine⟨k+1,⟨by omega,fun y hy=>?_,by rw [hs];omega,by rw [hs];omega⟩,qAA [] [] [] rfl (sk) (sk) rfl,by show nums.length - (k+1)<nums.length - k;omega⟩
  rcases hnx y hy with rfl | hy
  ·omega
  ·exact k2 y hy
 have m1:¬ (k:Int)<((nums.map i64).length:Nat):=m1
 rw [hm] at m1
 rw [qAc (by omega)] at k2
 have ha:nums.all (fun w=>decide (0<=w))=true:=List.all_eq_true.2 fun x hx=>decide_eq_true (k2 x hx)
 rw [ha] at hR
 refine QAD (fun e1=>?_) (fun e1=>?_)
 rotate_left
 ·have e1:¬ ((nums.map i64).length:Int)=dn:=e1
  rw [hm] at e1
  exact qAF _ rfl rfl (qAO (by rw [hR,decide_eq_false e1];rfl))
 have e1:((nums.map i64).length:Int)=dn:=e1
 rw [hm] at e1
 rw [decide_eq_true e1] at hR
 refine QAD (fun e2=>?_) (fun e2=>?_)
 ·have e2:(nums.take k).sum=g:=e2
  rw [qAc (by omega)] at e2
  exact qAF _ rfl rfl (qAO (by rw [hR,decide_eq_true e2];rfl))
 ·have e2:¬ (nums.take k).sum=g:=e2
  rw [qAc (by omega)] at e2
  exact qAF _ rfl rfl (qAO (by rw [hR,decide_eq_false e2];rfl))
theorem qQ9 (l:List De) (d:De) (op n val:Int) (r:Rf) (st:List Int):0<=qDQ l d op n val r st:=by
 unfold qDQ
 split
 ·decide
 ·split
  ·decide
  ·split
   ·split <;> decide
   ·decide
theorem qI8 (l:List De) (d:De) (r:Rf):0<=qF9 l d r:=by
 unfold qF9
 split
 ·split <;> decide
 ·split <;> decide
def lsQ (l:List Iss) (e:AE) (H':Hp):Prop:=e=.returned (.sl 1 3 0 l.length)/\H'=⟨2,[(1,isO l)]⟩
abbrev qWD:OT:=(.pure 0 (.pure 1 (.pure 2 (.pure 3 (.pure 4 (.pure 5 (.pure 6 (.pure 7 (.eff 8 [] (.pure 9 .fin) .nil)))))))))
theorem qG3 (l:List De) (d:De) (hdr:d.refs.length<=100) (hl:l.length<=1000) (hok:∀ d∈l,OkD d):∀ (m:Nat) (c:Cd) (cur:List Iss),csz c<=m->qNZ c->(cur++qBC l d c).length<=100000 ->
  HoldsG cx 94 [.p (des l), .p d.pv, .p c.pv, .sl 0 3 0 cur.length] ⟨1,[(0,isO cur)]⟩ (lsQ (cur++qBC l d c))
 | 0,c,_,hz,_,_=>by cases c;rw [csz] at hz;omega
 | m+1, .mk op n rel val r st ar,cur,hz,hw,hlen=>by
  have IH:=qG3 l d hdr hl hok m
  rw [csz] at hz
  rw [qNZ] at hw
  obtain⟨⟨w1,w0⟩,w2,w3⟩:=hw
  have hcl:(qBG ar).length=ar.length:=by rw [qBN,List.length_map]
  have hm:(l.map De.cells).length=l.length:=List.length_map ..
  obtain⟨R,hR⟩:∃ R,R=cur++qBC l d (.mk op n rel val r st ar):=⟨_,rfl⟩
  rw [<- hR] at hlen ⊢
  by_cases hn:ar=[]
  ·subst hn
   rw [qBC] at hR
   by_cases o0:op=0
   ·rw [if_pos o0,List.append_nil] at hR
    obtain⟨dk,dn,dnm,dpl,drs,dcs⟩:=d
    refine qAC Tryz.func94 rfl rfl rfl ?_
    refine And.intro (fun _=>?_) (fun h=>absurd o0 h)
    exact⟨[],[(1,0)],[], .returned (.sl 1 3 0 (cur).length),⟨2,[(1,isO (cur))]⟩,rfl,sk,sk,by rw [hR],by rw [hR]⟩
   ·rw [if_neg o0] at hR
    have hw:=(w1 rfl).resolve_left o0
    have hT:=qPB l d (op:=op) (n:=n) (rel:=rel) (val:=val) (r:=r) (st:=st) (ar:=[]) hw.1 hw.2.1 hw.2.2 hdr hl hok
    have hnn:=qQ9 l d op n val r st
    have hc1:cur.length<=100000:=by rw [hR,List.length_append] at hlen;omega
    generalize qDQ l d op n val r st=kk at hT hR hnn
    obtain⟨dk,dn,dnm,dpl,drs,dcs⟩:=d
    refine qAC Tryz.func94 rfl rfl rfl ?_
    refine And.intro (fun h=>absurd h o0) (fun _=>?_)
    refine And.intro (fun _=>?_) (fun h=>absurd rfl h)
    refine hT.eq rfl ?_
    refine QAD (fun z=>?_) (fun z=>?_)
    ·have z:0<kk:=z
     rw [qBb,if_neg (by omega)] at hR
     refine⟨by show 0+1<=1;omega,[Iss.cells (Iss.mk kk ((l.map De.cells).length:Nat) r.name)],rfl,?_⟩
     refine⟨by show 0+cur.length<=(cur.map Iss.cells).length;simp,cur.map Iss.cells,qAD (by simp),by show(cur.length+1) * 32<=140737488355328;omega,(cur++[Iss.mk kk ((l.map De.cells).length:Nat) r.name]).map Iss.cells,by rw [List.map_append];rfl,?_⟩
     exact⟨[],[(1,4)],[], .returned (.sl 1 3 0 (cur++[Iss.mk kk ((l.map De.cells).length:Nat) r.name]).length),⟨2,[(1,isO (cur++[Iss.mk kk ((l.map De.cells).length:Nat) r.name]))]⟩,rfl,⟨_,rfl,congrArg (fun j:Nat=>AV.sl 4 3 0 j) (qAN cur _).symm⟩,sk,by rw [hR,hm],by rw [hR,hm]⟩
    ·have z:¬ 0<kk:=z
     rw [qBb,if_pos (by omega),List.append_nil] at hR
     exact⟨[],[(1,0)],[], .returned (.sl 1 3 0 (cur).length),⟨2,[(1,isO (cur))]⟩,rfl,sk,sk,by rw [hR],by rw [hR]⟩
  have o0:¬ op=0:=fun e=>hn (w0 e)
  have hC1:qBC l d (.mk op n rel val r st ar)=qBM l d ar:=by
   cases ar with
   | nil=>exact absurd rfl hn
   | cons x ar=>rw [qBC,qBM]
  have hpos:¬ ar.length=0:=fun e=>hn (List.eq_nil_of_length_eq_zero e)
  rw [hC1] at hR
  obtain⟨dk,dn,dnm,dpl,drs,dcs⟩:=d
  refine qAC Tryz.func94 rfl rfl rfl ?_
  refine And.intro (fun h=>absurd h o0) (fun _=>?_)
  refine And.intro (fun h=>absurd (show((qBG ar).length:Int)=0 from h) (by rw [hcl];omega)) (fun _=>?_)
  refine⟨Nat × List Iss,fun x=>[(0, .p (des l)),(3, .sl 1 3 0 x.2.length),(5, .ptr 2 0 0),(6, .ptr 3 0 0),(10, .p (i64 x.1))],fun x=>⟨4,[(3,cnO (.mk op n rel val r st ar)),(2,dcO ⟨dk,dn,dnm,dpl,drs,dcs⟩),(1,isO x.2)]⟩,fun x=>x.1<=ar.length/\x.2++qBM l ⟨dk,dn,dnm,dpl,drs,dcs⟩ (ar.drop x.1)=R,fun x=>ar.length - x.1,?_,?_⟩
  ·exact⟨(0,cur),⟨Nat.zero_le _,hR.symm⟩,qAA [] [(1,0),(2,1),(3,2)] [] rfl (sk) (sk) rfl⟩
  rintro⟨k,cu⟩ ⟨k1,k2⟩
  simp only [] at k1 k2
  refine QAD (fun m1=>?_) (fun m1=>?_)
  rotate_left
  ·have m1:¬ (k:Int)<((qBG ar).length:Nat):=m1
   rw [hcl] at m1
   rw [List.drop_eq_nil_of_le (by omega),qBM,List.append_nil] at k2
   exact⟨[],[(1,1)],[], .returned (.sl 1 3 0 (cu).length),⟨2,[(1,isO (cu))]⟩,rfl,sk,sk,by rw [<- k2],by rw [<- k2]⟩
  have m1:(k:Int)<((qBG ar).length:Nat):=m1
  rw [hcl] at m1
  have hk:k<ar.length:=by omega
  have hcell:(qBG ar)[k]?=some (ar.getD k cd0).cells:=by rw [qBN];exact qCq hk
  have hmem:=qAI cd0 hk
  have hsz:=qL6 hmem
  have hxw:=qGg w3 hmem
  rw [qBt cd0 hk,qBM,<- List.append_assoc] at k2
  have hlen2:(cu++qBC l ⟨dk,dn,dnm,dpl,drs,dcs⟩ (ar.getD k cd0)).length<=100000:=by rw [<- k2,List.length_append] at hlen;omega
  generalize ar.getD k cd0=x at hcell hsz hxw k2 hlen2
  obtain⟨xo,xn,xr,xv,xf,xs,xa⟩:=x
  refine qAG qWD (by kernel_rfl) ?_
  refine⟨_,⟨by omega,(Cd.mk xo xn xr xv xf xs xa).cells,hcell,rfl⟩,?_⟩
  refine(IH (.mk xo xn xr xv xf xs xa) cu (by omega) hxw hlen2).holds.useT [] [(0,1)] rfl (sk) (sk) fun e0 H0 hq=>?_
  obtain⟨rfl,rfl⟩:=hq
  generalize cu++qBC l ⟨dk,dn,dnm,dpl,drs,dcs⟩ (.mk xo xn xr xv xf xs xa)=nxt at k2 hlen2 ⊢
  refine⟨rfl,_,⟨5,(4,isO nxt)::[(3,cnO (.mk op n rel val r st ar)),(2,dcO ⟨dk,dn,dnm,dpl,drs,dcs⟩)]⟩,rfl,rfl,?_⟩
  refine⟨_,w6z,?_⟩
  exact⟨(k+1,nxt),⟨by show k+1<=ar.length;omega,k2⟩,qAA [] [(1,4),(2,2),(3,3)] [] rfl (sk) (sk) rfl,by show ar.length - (k+1)<ar.length - k;omega⟩
def qDx (l:List De) (d:De):List Iss:=if d.n<1∨6<d.n then [⟨5,l.length,d.name⟩] else []
def qCM (l:List De) (d:De):List Iss:=if d.kind=2 then qA7 l d++qDx l d else if d.kind=3 then qA7 l d++(qB2 l d++qAd l d) else if d.kind=4 then qA7 l d++qAd l d else []
theorem qGR (l:List De) (d:De):(qCM l d).length<=3:=by
 have h3:(qA7 l d).length<=1:=by unfold qA7;split <;> simp
 have h4:(qAd l d).length<=1:=by unfold qAd;split <;> simp
 have h5:(qB2 l d).length<=1:=by unfold qB2;repeat' (first | (split;rotate_left) | simp)
 have h6:(qDx l d).length<=1:=by unfold qDx;split <;> simp
 unfold qCM
 repeat' split
 all_goals simp only [List.length_append,List.length_nil]
 all_goals omega
theorem qHL (l:List De) {nm:List UInt8} (hn:nm ≠ []) (hl:l.length<=1000) (hok:∀ d∈l,OkD d):(qCR l nm=none/\Pure cx 34 [des l, .str nm] (·=.ret [.agg [.str [],i64 0, .str [],i64 0,i64 0], .bool false])) ∨
  ∃ (t:De) (y1:List UInt8) (y2:Int) (y3:List UInt8) (y4 y5:Int),qCR l nm=some t/\y2=t.kind/\Pure cx 34 [des l, .str nm] (·=.ret [.agg [.str y1,i64 y2, .str y3,i64 y4,i64 y5], .bool true]):=by
 have hF:=qHM l nm hl hok
 rw [qQH] at hF
 cases hv:qCR l nm with
 | none=>
  rw [qGY hv] at hF
  exact .inl ⟨rfl,hF⟩
 | some t=>
  obtain⟨a,ha⟩:=qGX hn hv
  rw [ha] at hF
  refine .inr ⟨t,(qCH a t).name,(qCH a t).kind,(qCH a t).plate,(qCH a t).card,(qCH a t).size,rfl,?_,hF⟩
  rw [qCH]
  by_cases h:t.kind=2
  ·rw [if_pos h,h]
  ·rw [if_neg h]
theorem qEZ (l:List De) {d:De} (hn:d.name ≠ []) (hl:l.length<=1000) (hok:∀ d∈l,OkD d):(qA7 l d=[]/\Pure cx 34 [des l, .str d.name] (·=.ret [.agg [.str [],i64 0, .str [],i64 0,i64 0], .bool false])) ∨
  ∃ (y1:List UInt8) (y2:Int) (y3:List UInt8) (y4 y5:Int),qA7 l d=[Iss.mk 2 ((l.map De.cells).length:Nat) d.name]/\Pure cx 34 [des l, .str d.name] (·=.ret [.agg [.str y1,i64 y2, .str y3,i64 y4,i64 y5], .bool true]):=by
 rcases qHL l hn hl hok with ⟨h1,h2⟩ | ⟨t,y1,y2,y3,y4,y5,h1,h2,h3⟩
 ·refine .inl ⟨?_,h2⟩
  rw [qA7,qIa,h1];rfl
 ·refine .inr ⟨y1,y2,y3,y4,y5,?_,h3⟩
  rw [qA7,qIa,h1,List.length_map];rfl
theorem qLc (l:List De) (d:De) (hl:l.length<=1000) (hok:∀ d∈l,OkD d):(d.plate=[]/\qB2 l d=[])∨(¬ d.plate=[]/\((qB2 l d=[Iss.mk 3 ((l.map De.cells).length:Nat) d.plate]/\Pure cx 34 [des l, .str d.plate] (·=.ret [.agg [.str [],i64 0, .str [],i64 0,i64 0], .bool false])) ∨
  ∃ (y1:List UInt8) (y2:Int) (y3:List UInt8) (y4 y5:Int),(qB2 l d=[]/\Pure cx 34 [des l, .str d.plate] (·=.ret [.agg [.str y1,i64 y2, .str y3,i64 y4,i64 y5], .bool true])/\y2=2)∨(qB2 l d=[Iss.mk 4 ((l.map De.cells).length:Nat) d.plate]/\Pure cx 34 [des l, .str d.plate] (·=.ret [.agg [.str y1,i64 y2, .str y3,i64 y4,i64 y5], .bool true])/\¬ y2=2))):=by
 by_cases hp:d.plate=[]
 ·exact .inl ⟨hp,by rw [qB2,if_pos hp]⟩
 refine .inr ⟨hp,?_⟩
 rcases qHL l hp hl hok with ⟨h1,h2⟩ | ⟨t,y1,y2,y3,y4,y5,h1,h2,h3⟩
 ·refine .inl ⟨?_,h2⟩
  rw [qB2,if_neg hp,h1,List.length_map]
 ·refine .inr ⟨y1,y2,y3,y4,y5,?_⟩
  by_cases hk:t.kind=2
  ·refine .inl ⟨?_,h3,h2.trans hk⟩
   rw [qB2,if_neg hp,h1]
   simp only [if_pos hk]
  ·refine .inr ⟨?_,h3,fun e=>hk (h2.symm.trans e)⟩
   rw [qB2,if_neg hp,h1,List.length_map]
   simp only [if_neg hk]
abbrev qKI:OT:=(.pure 0 (.pure 1 (.pure 2 (.pure 3 (.pure 4 (.pure 5 (.pure 6 (.pure 7 (.pure 8 (.pure 9 (.pure 10 (.pure 11 (.pure 12 (.pure 13 (.pure 14 .fin)))))))))))))))
abbrev qKH:OT:=(.pure 0 (.pure 1 (.pure 2 (.pure 3 (.pure 4 (.pure 5 (.pure 6 (.eff 7 [] (.pure 8 .fin) .nil))))))))
abbrev qRa:OT:=(.pure 0 (.pure 1 (.pure 2 (.pure 3 (.pure 4 (.pure 5 (.pure 6 (.pure 7 (.pure 8 (.eff 9 [] (.pure 10 .fin) .nil))))))))))
abbrev qRZ:OT:=(.pure 0 (.pure 1 (.pure 2 (.pure 3 (.pure 4 (.pure 5 (.pure 6 (.pure 7 (.eff 8 [] (.pure 9 .fin) .nil)))))))))
theorem qUe (l:List De) (dn:Int) (dnm dpl:List UInt8) (drs:List Rf) (dcs:List Cs) (g:Int) (hd:DcV ⟨5,dn,dnm,dpl,drs,dcs⟩) (hl:l.length<=1000) (hok:∀ d∈l,OkD d):Pure cx 56 [des l,(De.mk 5 dn dnm dpl drs dcs).pv,i64 g] (·=.ret [isl (qCM l ⟨5,dn,dnm,dpl,drs,dcs⟩++(qAQ l ⟨5,dn,dnm,dpl,drs,dcs⟩ [] drs++qAo l ⟨5,dn,dnm,dpl,drs,dcs⟩ g dcs))]):=by
 have hm:(l.map De.cells).length=l.length:=List.length_map ..
 have hdr:drs.length<=8:=hd.refs
 have hcs:dcs.length<=12:=hd.few
 have hca:∀ c∈dcs,CaV c:=hd.cases
 have hrn:∀ r∈drs,r.name ≠ []:=hd.ok.ok.refs
 have hbare:(5:Int)=1∨(5:Int)=5->dnm=[]:=hd.ok.ok.bare
 have hname:(5:Int)=2∨(5:Int)=3∨(5:Int)=4->dnm ≠ []:=hd.ok.ok.name
 have hplate:¬ (5:Int)=3->dpl=[]:=hd.ok.ok.plate
 have t1:=qGR l ⟨5,dn,dnm,dpl,drs,dcs⟩
 have t2:=qDB l ⟨5,dn,dnm,dpl,drs,dcs⟩ drs []
 have t3:=qCZ l ⟨5,dn,dnm,dpl,drs,dcs⟩ g dcs hca
 have hpl:=hplate (by decide)
 obtain⟨dum,hpre5⟩:∃ dum:List Iss,dum=[]:=⟨_,rfl⟩
 have hpre:qCM l ⟨5,dn,dnm,dpl,drs,dcs⟩=dum:=by rw [hpre5];rfl
 have hT0:=qHM l dnm hl hok
 rw [qQH,fnd,if_pos (hbare (.inr rfl))] at hT0
 refine qAB Tryz.func56 rfl rfl rfl ?_
 apply cut
 case h=>
  intro key
  refine And.intro (fun h=>absurd (show(5:Int)=1 from h) (by decide)) (fun _=>?_)
  refine hT0.eq rfl ?_
  refine And.intro (fun h=>absurd (show(5:Int)=2 from h) (by decide)) (fun _=>?_)
  refine And.intro (fun _=>?_) (fun h=>absurd hpl h)
  refine And.intro (fun h=>absurd (show(5:Int)=3 from h) (by decide)) (fun _=>?_)
  refine And.intro (fun h=>absurd (show(5:Int)=4 from h) (by decide)) (fun _=>?_)
  exact⟨Nat × List Iss,(fun x=>[(0, .p (des l)),(2, .p (i64 g)),(4, .ptr 0 0 0),(7, .sl 1 3 0 x.2.length),(8, .p (i64 (l.map De.cells).length)),(13, .p (i64 x.1))]),(fun x=>⟨2,[(1,isO x.2),(0,dcO ⟨5,dn,dnm,dpl,drs,dcs⟩)]⟩),(fun x=>x.1<=drs.length/\x.2++qAQ l ⟨5,dn,dnm,dpl,drs,dcs⟩ (drs.take x.1) (drs.drop x.1)=qCM l ⟨5,dn,dnm,dpl,drs,dcs⟩++qAQ l ⟨5,dn,dnm,dpl,drs,dcs⟩ [] drs),(fun x=>drs.length - x.1),⟨(0,[]),⟨Nat.zero_le _,by show []++_=_;rw [hpre,hpre5];rfl⟩,qAA [] [] [(1,3)] rfl (sk) (sk) rfl⟩,key.get⟩
 case k=>
  rintro⟨k,cur⟩ ⟨k1,k2⟩
  simp only [] at k1 k2
  have hcl:cur.length<=400:=by
   have e:=congrArg List.length k2
   rw [List.length_append,List.length_append] at e
   omega
  refine QAD (fun m1=>?_) (fun m1=>?_)
  rotate_left
  ·have m1:¬ (k:Int)<((drs.map Rf.cells).length:Nat):=m1
   rw [List.length_map] at m1
   rw [List.drop_eq_nil_of_le (by omega),qAQ,List.append_nil] at k2
   refine⟨Nat × List Iss,fun x=>[(0, .p (des l)),(2, .p (i64 g)),(4, .ptr 0 0 0),(7, .sl 1 3 0 x.2.length),(8, .p (i64 (l.map De.cells).length)),(17, .p (i64 x.1))],fun x=>⟨2,[(1,isO x.2),(0,dcO ⟨5,dn,dnm,dpl,drs,dcs⟩)]⟩,fun x=>x.1<=dcs.length/\x.2++qAo l ⟨5,dn,dnm,dpl,drs,dcs⟩ g (dcs.drop x.1)=cur++qAo l ⟨5,dn,dnm,dpl,drs,dcs⟩ g dcs,fun x=>dcs.length - x.1,?_,?_⟩
   ·exact⟨(0,cur),⟨Nat.zero_le _,rfl⟩,qAA [] [] [] rfl (sk) (sk) rfl⟩
   rintro⟨j,cu⟩ ⟨j1,j2⟩
   simp only [] at j1 j2
   have htot:(cur++qAo l ⟨5,dn,dnm,dpl,drs,dcs⟩ g dcs).length<=1000:=by rw [List.length_append];omega
   refine QAD (fun n1=>?_) (fun n1=>?_)
   rotate_left
   ·have n1:¬ (j:Int)<((dcs.map Cs.cells).length:Nat):=n1
    rw [List.length_map] at n1
    rw [List.drop_eq_nil_of_le (by omega),show qAo l ⟨5,dn,dnm,dpl,drs,dcs⟩ g []=[] from rfl,List.append_nil] at j2
    exact qAF (isl cu) rfl ⟨_,rfl,by show 0+cu.length<=(cu.map Iss.cells).length;simp,qAD (by simp)⟩ (by rw [j2,k2,List.append_assoc])
   have n1:(j:Int)<((dcs.map Cs.cells).length:Nat):=n1
   rw [List.length_map] at n1
   have hj:j<dcs.length:=by omega
   have hcell:=qHm hj
   have hx:=(hca _ (qAI cs0 hj)).ok
   rw [qBt cs0 hj,qBp,<- List.append_assoc,<- List.append_assoc] at j2
   rw [<- j2,List.length_append,List.length_append] at htot
   generalize dcs.getD j cs0=x at hcell hx j2 htot
   obtain⟨⟨xo,xn,xr,xv,xf,xs,xa⟩,xw⟩:=x
   obtain⟨x1,x2,x3⟩:=hx
   simp only [] at x1 x2 x3 j2 htot
   have hr:=qGP ⟨5,dn,dnm,dpl,drs,dcs⟩ xw g x2 x3
   refine qAG qRa (by kernel_rfl) ?_
   refine⟨_,⟨by omega,(⟨.mk xo xn xr xv xf xs xa,xw⟩:Cs).cells,hcell,rfl⟩,?_⟩
   refine(qG3 l ⟨5,dn,dnm,dpl,drs,dcs⟩ (by show drs.length<=100;omega) hl hok _ (.mk xo xn xr xv xf xs xa) cu (Nat.le_refl _) x1 (by omega)).holds.useT [] [(0,1)] rfl (sk) (sk) fun e0 H0 hq=>?_
   obtain⟨rfl,rfl⟩:=hq
   have hnl:(cu++qBC l ⟨5,dn,dnm,dpl,drs,dcs⟩ (.mk xo xn xr xv xf xs xa)).length<=1000:=by omega
   generalize cu++qBC l ⟨5,dn,dnm,dpl,drs,dcs⟩ (.mk xo xn xr xv xf xs xa)=nxt at j2 hnl ⊢
   refine⟨rfl,_,⟨3,(2,isO nxt)::[(0,dcO ⟨5,dn,dnm,dpl,drs,dcs⟩)]⟩,rfl,rfl,?_⟩
   refine qAG qRZ (by kernel_rfl) ?_
   refine⟨_,⟨by omega,(⟨.mk xo xn xr xv xf xs xa,xw⟩:Cs).cells,hcell,rfl⟩,?_⟩
   by_cases hrow:qI2 ⟨5,dn,dnm,dpl,drs,dcs⟩ xw g=true
   ·rw [hrow] at hr j2
    rw [if_pos rfl,List.append_nil] at j2
    refine hr.eq rfl ?_
    refine⟨_,w6z,?_⟩
    exact⟨(j+1,nxt),⟨by show j+1<=dcs.length;omega,j2⟩,qAA [] [(1,2)] [] rfl (sk) (sk) rfl,by show dcs.length - (j+1)<dcs.length - j;omega⟩
   ·rw [Bool.not_eq_true] at hrow
    rw [hrow] at hr j2
    rw [if_neg (by decide),<- hm] at j2
    refine hr.eq rfl ?_
    refine⟨by show 0+1<=1;omega,[Iss.cells (Iss.mk 9 ((l.map De.cells).length:Nat) [])],rfl,?_⟩
    refine⟨by show 0+(nxt.length)<=((nxt).map Iss.cells).length;simp,(nxt).map Iss.cells,qAD (by simp),by show((nxt.length)+1) * 32<=140737488355328;omega,((nxt)++[Iss.mk 9 ((l.map De.cells).length:Nat) []]).map Iss.cells,by rw [List.map_append];rfl,?_⟩
    refine⟨_,w6z,?_⟩
    exact⟨(j+1,nxt++[Iss.mk 9 ((l.map De.cells).length:Nat) []]),⟨by show j+1<=dcs.length;omega,j2⟩,qAA [] [(1,4)] [] rfl ⟨rfl,rfl,⟨rfl,rfl⟩,congrArg (fun j:Nat=>AV.sl 4 3 0 j) (qAN _ _).symm,rfl,rfl,trivial⟩ (sk) rfl,by show dcs.length - (j+1)<dcs.length - j;omega⟩
  have m1:(k:Int)<((drs.map Rf.cells).length:Nat):=m1
  rw [List.length_map] at m1
  have hk:k<drs.length:=by omega
  have hcell:=qC6 hk
  have hxn:=hrn _ (qAI rf0 hk)
  have hstep:qAQ l ⟨5,dn,dnm,dpl,drs,dcs⟩ (drs.take k) (drs.drop k)=(if drs.getD k rf0∈drs.take k then [⟨2,((l.map De.cells).length:Nat),(drs.getD k rf0).name⟩] else [])++(qBb (qF9 l ⟨5,dn,dnm,dpl,drs,dcs⟩ (drs.getD k rf0)) ((l.map De.cells).length:Nat) (drs.getD k rf0).name++qAQ l ⟨5,dn,dnm,dpl,drs,dcs⟩ (drs.take (k+1)) (drs.drop (k+1))):=by
   rw [qBt rf0 hk,qAQ,hm,qAE rf0 hk]
  generalize drs.getD k rf0=x at hcell hxn hstep
  have hRf:=qIy l ⟨5,dn,dnm,dpl,drs,dcs⟩ x hxn hl hok
  have hnn:=qI8 l ⟨5,dn,dnm,dpl,drs,dcs⟩ x
  generalize qF9 l ⟨5,dn,dnm,dpl,drs,dcs⟩ x=kk at hRf hnn hstep
  refine⟨Nat × Bool,fun y=>[(0, .p (des l)),(2, .p (i64 g)),(4, .ptr 0 0 0),(7, .sl 1 3 0 cur.length),(8, .p (i64 (l.map De.cells).length)),(13, .p (i64 k)),(14, .p (.bool y.2)),(15, .p (i64 y.1))],fun _=>⟨2,[(1,isO cur),(0,dcO ⟨5,dn,dnm,dpl,drs,dcs⟩)]⟩,fun y=>y.1<=k/\y.2=decide (x∈drs.take y.1),fun y=>k - y.1,?_,?_⟩
  ·exact⟨(0,false),⟨Nat.zero_le _,by simp⟩,qAA [] [] [] rfl (sk) (sk) rfl⟩
  rintro⟨j,b⟩ ⟨j1,j2⟩
  simp only [] at j1 j2
  cases b
  ·refine QAD (fun n1=>?_) (fun n1=>?_)
   ·have n1:(j:Int)<(k:Nat):=n1
    have hj:j<drs.length:=by omega
    have hcj:=qC6 hj
    have hnx:(x∈drs.take (j+1)) ↔ (x∈drs.take j∨x=drs.getD j rf0):=by rw [qAE rf0 hj,List.mem_append,List.mem_singleton]
    generalize drs.getD j rf0=y at hcj hnx
    refine qAG qKI (by kernel_rfl) ?_
    refine⟨_,⟨by omega,y.cells,hcj,rfl⟩,?_⟩
    refine⟨_,⟨by omega,x.cells,hcell,rfl⟩,?_⟩
    refine⟨⟨by kernel_rfl,by kernel_rfl⟩,fun e1=>?_,fun e1=>?_⟩
    ·have e1:y=x:=qDk (by first | exact e1 | (injection e1))
     refine⟨_,w6z,?_⟩
     exact⟨(j+1,true),⟨by show j+1<=k;omega,(decide_eq_true (hnx.2 (.inr e1.symm))).symm⟩,qAA [] [] [] rfl (sk) (sk) rfl,by show k - (j+1)<k - j;omega⟩
    ·have e1:¬ y=x:=fun e=>e1 (by rw [e])
     have hno:¬ x∈drs.take j:=of_decide_eq_false j2.symm
     refine⟨_,w6z,?_⟩
     exact⟨(j+1,false),⟨by show j+1<=k;omega,(decide_eq_false (fun h=>(hnx.1 h).elim hno fun e=>e1 e.symm)).symm⟩,qAA [] [] [] rfl (sk) (sk) rfl,by show k - (j+1)<k - j;omega⟩
   ·have n1:¬ (j:Int)<(k:Nat):=n1
    have hjk:j=k:=by omega
    have hno:¬ x∈drs.take k:=by rw [hjk] at j2;exact of_decide_eq_false j2.symm
    rw [if_neg hno] at hstep
    clear hjk n1 j1 j2
    refine qAG qKH (by kernel_rfl) ?_
    refine⟨_,⟨by omega,x.cells,hcell,rfl⟩,?_⟩
    refine hRf.eq rfl ?_
    refine qAH (fun z=>?_) (fun z=>?_)
    ·have z:0<kk:=z
     rw [qBb,if_neg (show ¬ kk=0 by omega)] at hstep
     refine⟨_,⟨by omega,x.cells,hcell,rfl⟩,?_⟩
     refine⟨by show 0+1<=1;omega,[Iss.cells (Iss.mk kk ((l.map De.cells).length:Nat) x.name)],rfl,?_⟩
     refine⟨by show 0+(cur.length)<=((cur).map Iss.cells).length;simp,(cur).map Iss.cells,qAD (by simp),by show((cur.length)+1) * 32<=140737488355328;omega,((cur)++[Iss.mk kk ((l.map De.cells).length:Nat) x.name]).map Iss.cells,by rw [List.map_append];rfl,?_⟩
     refine⟨_,w6z,?_⟩
     exact⟨(k+1,(cur)++[Iss.mk kk ((l.map De.cells).length:Nat) x.name]),⟨by show k+1<=drs.length;omega,by rw [<- k2];rw [hstep,List.append_assoc] <;> rfl⟩,qAA [] [(1,3)] [] rfl ⟨rfl,rfl,⟨rfl,rfl⟩,congrArg (fun j:Nat=>AV.sl 3 3 0 j) (qAN cur _).symm,rfl,rfl,trivial⟩ (sk) rfl,by show drs.length - (k+1)<drs.length - k;omega⟩
    ·have z:¬ 0<kk:=z
     rw [qBb,if_pos (show kk=0 by omega)] at hstep
     refine⟨_,w6z,?_⟩
     exact⟨(k+1,cur),⟨by show k+1<=drs.length;omega,by rw [<- k2];rw [hstep] <;> rfl⟩,qAA [] [(1,1)] [] rfl ⟨rfl,rfl,⟨rfl,rfl⟩,rfl,rfl,rfl,trivial⟩ (sk) rfl,by show drs.length - (k+1)<drs.length - k;omega⟩
  ·refine QAD (fun n1=>?_) (fun n1=>?_)
   ·have n1:(j:Int)<(k:Nat):=n1
    have hj:j<drs.length:=by omega
    have hnx:(x∈drs.take (j+1)) ↔ (x∈drs.take j∨x=drs.getD j rf0):=by rw [qAE rf0 hj,List.mem_append,List.mem_singleton]
    have hyes:x∈drs.take j:=of_decide_eq_true j2.symm
    refine qAG qKI (by kernel_rfl) ?_
    refine⟨_,w6z,?_⟩
    exact⟨(j+1,true),⟨by show j+1<=k;omega,(decide_eq_true (hnx.2 (.inl hyes))).symm⟩,qAA [] [] [] rfl (sk) (sk) rfl,by show k - (j+1)<k - j;omega⟩
   ·have n1:¬ (j:Int)<(k:Nat):=n1
    have hjk:j=k:=by omega
    have hyes:x∈drs.take k:=by rw [hjk] at j2;exact of_decide_eq_true j2.symm
    rw [if_pos hyes] at hstep
    clear hjk n1 j1 j2
    refine⟨_,⟨by omega,x.cells,hcell,rfl⟩,?_⟩
    refine⟨by show 0+1<=1;omega,[Iss.cells (Iss.mk 2 ((l.map De.cells).length:Nat) x.name)],rfl,?_⟩
    refine⟨by show 0+(cur.length)<=((cur).map Iss.cells).length;simp,(cur).map Iss.cells,qAD (by simp),by show((cur.length)+1) * 32<=140737488355328;omega,((cur)++[Iss.mk 2 ((l.map De.cells).length:Nat) x.name]).map Iss.cells,by rw [List.map_append];rfl,?_⟩
    refine qAG qKH (by kernel_rfl) ?_
    refine⟨_,⟨by omega,x.cells,hcell,rfl⟩,?_⟩
    refine hRf.eq rfl ?_
    refine qAH (fun z=>?_) (fun z=>?_)
    ·have z:0<kk:=z
     rw [qBb,if_neg (show ¬ kk=0 by omega)] at hstep
     refine⟨_,⟨by omega,x.cells,hcell,rfl⟩,?_⟩
     refine⟨by show 0+1<=1;omega,[Iss.cells (Iss.mk kk ((l.map De.cells).length:Nat) x.name)],rfl,?_⟩
     refine⟨by show 0+(cur.length+1)<=((cur++[Iss.mk 2 ((l.map De.cells).length:Nat) x.name]).map Iss.cells).length;simp,(cur++[Iss.mk 2 ((l.map De.cells).length:Nat) x.name]).map Iss.cells,qAD (by simp),by show((cur.length+1)+1) * 32<=140737488355328;omega,((cur++[Iss.mk 2 ((l.map De.cells).length:Nat) x.name])++[Iss.mk kk ((l.map De.cells).length:Nat) x.name]).map Iss.cells,by rw [List.map_append];rfl,?_⟩
     refine⟨_,w6z,?_⟩
     exact⟨(k+1,(cur++[Iss.mk 2 ((l.map De.cells).length:Nat) x.name])++[Iss.mk kk ((l.map De.cells).length:Nat) x.name]),⟨by show k+1<=drs.length;omega,by rw [<- k2];rw [hstep,List.append_assoc,List.append_assoc] <;> rfl⟩,qAA [] [(1,5)] [] rfl ⟨rfl,rfl,⟨rfl,rfl⟩,congrArg (fun j:Nat=>AV.sl 5 3 0 j) ((qAN _ _).trans (congrArg (fun z:Nat=>z+1) (qAN cur _))).symm,rfl,rfl,trivial⟩ (sk) rfl,by show drs.length - (k+1)<drs.length - k;omega⟩
    ·have z:¬ 0<kk:=z
     rw [qBb,if_pos (show kk=0 by omega)] at hstep
     refine⟨_,w6z,?_⟩
     exact⟨(k+1,cur++[Iss.mk 2 ((l.map De.cells).length:Nat) x.name]),⟨by show k+1<=drs.length;omega,by rw [<- k2];rw [hstep,List.append_assoc] <;> rfl⟩,qAA [] [(1,3)] [] rfl ⟨rfl,rfl,⟨rfl,rfl⟩,congrArg (fun j:Nat=>AV.sl 3 3 0 j) (qAN cur _).symm,rfl,rfl,trivial⟩ (sk) rfl,by show drs.length - (k+1)<drs.length - k;omega⟩
theorem qUf (l:List De) (dn:Int) (dnm dpl:List UInt8) (drs:List Rf) (dcs:List Cs) (g:Int) (hd:DcV ⟨4,dn,dnm,dpl,drs,dcs⟩) (hl:l.length<=1000) (hok:∀ d∈l,OkD d):Pure cx 56 [des l,(De.mk 4 dn dnm dpl drs dcs).pv,i64 g] (·=.ret [isl (qCM l ⟨4,dn,dnm,dpl,drs,dcs⟩++(qAQ l ⟨4,dn,dnm,dpl,drs,dcs⟩ [] drs++qAo l ⟨4,dn,dnm,dpl,drs,dcs⟩ g dcs))]):=by
 have hm:(l.map De.cells).length=l.length:=List.length_map ..
 have hdr:drs.length<=8:=hd.refs
 have hcs:dcs.length<=12:=hd.few
 have hca:∀ c∈dcs,CaV c:=hd.cases
 have hrn:∀ r∈drs,r.name ≠ []:=hd.ok.ok.refs
 have hbare:(4:Int)=1∨(4:Int)=5->dnm=[]:=hd.ok.ok.bare
 have hname:(4:Int)=2∨(4:Int)=3∨(4:Int)=4->dnm ≠ []:=hd.ok.ok.name
 have hplate:¬ (4:Int)=3->dpl=[]:=hd.ok.ok.plate
 have t1:=qGR l ⟨4,dn,dnm,dpl,drs,dcs⟩
 have t2:=qDB l ⟨4,dn,dnm,dpl,drs,dcs⟩ drs []
 have t3:=qCZ l ⟨4,dn,dnm,dpl,drs,dcs⟩ g dcs hca
 have hnm:=hname (.inr (.inr rfl))
 have hpl:=hplate (by decide)
 have hpre:qCM l ⟨4,dn,dnm,dpl,drs,dcs⟩=qA7 l ⟨4,dn,dnm,dpl,drs,dcs⟩++qAd l ⟨4,dn,dnm,dpl,drs,dcs⟩:=rfl
 have hT:=qEZ l (d:=⟨4,dn,dnm,dpl,drs,dcs⟩) hnm hl hok
 refine qAB Tryz.func56 rfl rfl rfl ?_
 apply cut
 case h=>
  intro key
  refine And.intro (fun h=>absurd (show(4:Int)=1 from h) (by decide)) (fun _=>?_)
  refine Or.elim hT (fun hT=>?_) (fun hT=>?_)
  ·obtain⟨hT1,hT2⟩:=hT
   refine hT2.eq rfl ?_
   refine And.intro (fun h=>absurd (show(4:Int)=2 from h) (by decide)) (fun _=>?_)
   refine And.intro (fun _=>?_) (fun h=>absurd hpl h)
   refine And.intro (fun h=>absurd (show(4:Int)=3 from h) (by decide)) (fun _=>?_)
   refine And.intro (fun _=>?_) (fun h=>absurd rfl h)
   refine qAH (fun c1=>?_) (fun c1=>?_)
   ·have c1:dn<2:=c1
    have hc:qAd l ⟨4,dn,dnm,dpl,drs,dcs⟩=[Iss.mk 6 ((l.map De.cells).length:Nat) dnm]:=by rw [qAd,if_pos (.inl c1),hm]
    refine⟨by show 0+1<=1;omega,[Iss.cells (Iss.mk 6 ((l.map De.cells).length:Nat) dnm)],rfl,?_⟩
    refine⟨by show 1 * 32<=140737488355328;decide,?_⟩
    exact⟨Nat × List Iss,(fun x=>[(0, .p (des l)),(2, .p (i64 g)),(4, .ptr 0 0 0),(7, .sl 1 3 0 x.2.length),(8, .p (i64 (l.map De.cells).length)),(13, .p (i64 x.1))]),(fun x=>⟨2,[(1,isO x.2),(0,dcO ⟨4,dn,dnm,dpl,drs,dcs⟩)]⟩),(fun x=>x.1<=drs.length/\x.2++qAQ l ⟨4,dn,dnm,dpl,drs,dcs⟩ (drs.take x.1) (drs.drop x.1)=qCM l ⟨4,dn,dnm,dpl,drs,dcs⟩++qAQ l ⟨4,dn,dnm,dpl,drs,dcs⟩ [] drs),(fun x=>drs.length - x.1),⟨(0,[Iss.mk 6 ((l.map De.cells).length:Nat) dnm]),⟨Nat.zero_le _,by show [Iss.mk 6 ((l.map De.cells).length:Nat) dnm]++_=_;rw [hpre,hT1,hc];rfl⟩,qAA [] [(1,3)] [] rfl (sk) (sk) rfl⟩,key.get⟩
   have c1:¬ dn<2:=c1
   refine qAH (fun c2=>?_) (fun c2=>?_)
   ·have c2:4<dn:=c2
    have hc:qAd l ⟨4,dn,dnm,dpl,drs,dcs⟩=[Iss.mk 6 ((l.map De.cells).length:Nat) dnm]:=by rw [qAd,if_pos (.inr c2),hm]
    refine⟨by show 0+1<=1;omega,[Iss.cells (Iss.mk 6 ((l.map De.cells).length:Nat) dnm)],rfl,?_⟩
    refine⟨by show 1 * 32<=140737488355328;decide,?_⟩
    exact⟨Nat × List Iss,(fun x=>[(0, .p (des l)),(2, .p (i64 g)),(4, .ptr 0 0 0),(7, .sl 1 3 0 x.2.length),(8, .p (i64 (l.map De.cells).length)),(13, .p (i64 x.1))]),(fun x=>⟨2,[(1,isO x.2),(0,dcO ⟨4,dn,dnm,dpl,drs,dcs⟩)]⟩),(fun x=>x.1<=drs.length/\x.2++qAQ l ⟨4,dn,dnm,dpl,drs,dcs⟩ (drs.take x.1) (drs.drop x.1)=qCM l ⟨4,dn,dnm,dpl,drs,dcs⟩++qAQ l ⟨4,dn,dnm,dpl,drs,dcs⟩ [] drs),(fun x=>drs.length - x.1),⟨(0,[Iss.mk 6 ((l.map De.cells).length:Nat) dnm]),⟨Nat.zero_le _,by show [Iss.mk 6 ((l.map De.cells).length:Nat) dnm]++_=_;rw [hpre,hT1,hc];rfl⟩,qAA [] [(1,3)] [] rfl (sk) (sk) rfl⟩,key.get⟩
   ·have c2:¬ 4<dn:=c2
    have hc:qAd l ⟨4,dn,dnm,dpl,drs,dcs⟩=[]:=by rw [qAd,if_neg (show ¬ (dn<2∨4<dn) by omega)]
    exact⟨Nat × List Iss,(fun x=>[(0, .p (des l)),(2, .p (i64 g)),(4, .ptr 0 0 0),(7, .sl 1 3 0 x.2.length),(8, .p (i64 (l.map De.cells).length)),(13, .p (i64 x.1))]),(fun x=>⟨2,[(1,isO x.2),(0,dcO ⟨4,dn,dnm,dpl,drs,dcs⟩)]⟩),(fun x=>x.1<=drs.length/\x.2++qAQ l ⟨4,dn,dnm,dpl,drs,dcs⟩ (drs.take x.1) (drs.drop x.1)=qCM l ⟨4,dn,dnm,dpl,drs,dcs⟩++qAQ l ⟨4,dn,dnm,dpl,drs,dcs⟩ [] drs),(fun x=>drs.length - x.1),⟨(0,[]),⟨Nat.zero_le _,by show []++_=_;rw [hpre,hT1,hc];rfl⟩,qAA [] [] [(1,3)] rfl (sk) (sk) rfl⟩,key.get⟩
  ·obtain⟨z1,z2,z3,z4,z5,hT1,hT2⟩:=hT
   refine hT2.eq rfl ?_
   refine And.intro (fun h=>absurd h hnm) (fun _=>?_)
   refine⟨by show 0+1<=1;omega,[Iss.cells (Iss.mk 2 ((l.map De.cells).length:Nat) dnm)],rfl,?_⟩
   refine⟨by show 1 * 32<=140737488355328;decide,?_⟩
   refine And.intro (fun h=>absurd (show(4:Int)=2 from h) (by decide)) (fun _=>?_)
   refine And.intro (fun _=>?_) (fun h=>absurd hpl h)
   refine And.intro (fun h=>absurd (show(4:Int)=3 from h) (by decide)) (fun _=>?_)
   refine And.intro (fun _=>?_) (fun h=>absurd rfl h)
   refine qAH (fun c1=>?_) (fun c1=>?_)
   ·have c1:dn<2:=c1
    have hc:qAd l ⟨4,dn,dnm,dpl,drs,dcs⟩=[Iss.mk 6 ((l.map De.cells).length:Nat) dnm]:=by rw [qAd,if_pos (.inl c1),hm]
    refine⟨by show 0+1<=1;omega,[Iss.cells (Iss.mk 6 ((l.map De.cells).length:Nat) dnm)],rfl,?_⟩
    refine⟨by show 0+1<=1;decide,[Iss.cells (Iss.mk 2 ((l.map De.cells).length:Nat) dnm)],rfl,by show(1+1) * 32<=140737488355328;decide,[Iss.cells (Iss.mk 2 ((l.map De.cells).length:Nat) dnm),Iss.cells (Iss.mk 6 ((l.map De.cells).length:Nat) dnm)],rfl,?_⟩
    exact⟨Nat × List Iss,(fun x=>[(0, .p (des l)),(2, .p (i64 g)),(4, .ptr 0 0 0),(7, .sl 1 3 0 x.2.length),(8, .p (i64 (l.map De.cells).length)),(13, .p (i64 x.1))]),(fun x=>⟨2,[(1,isO x.2),(0,dcO ⟨4,dn,dnm,dpl,drs,dcs⟩)]⟩),(fun x=>x.1<=drs.length/\x.2++qAQ l ⟨4,dn,dnm,dpl,drs,dcs⟩ (drs.take x.1) (drs.drop x.1)=qCM l ⟨4,dn,dnm,dpl,drs,dcs⟩++qAQ l ⟨4,dn,dnm,dpl,drs,dcs⟩ [] drs),(fun x=>drs.length - x.1),⟨(0,[Iss.mk 2 ((l.map De.cells).length:Nat) dnm,Iss.mk 6 ((l.map De.cells).length:Nat) dnm]),⟨Nat.zero_le _,by show [Iss.mk 2 ((l.map De.cells).length:Nat) dnm,Iss.mk 6 ((l.map De.cells).length:Nat) dnm]++_=_;rw [hpre,hT1,hc];rfl⟩,qAA [] [(1,5)] [] rfl (sk) (sk) rfl⟩,key.get⟩
   have c1:¬ dn<2:=c1
   refine qAH (fun c2=>?_) (fun c2=>?_)
   ·have c2:4<dn:=c2
    have hc:qAd l ⟨4,dn,dnm,dpl,drs,dcs⟩=[Iss.mk 6 ((l.map De.cells).length:Nat) dnm]:=by rw [qAd,if_pos (.inr c2),hm]
    refine⟨by show 0+1<=1;omega,[Iss.cells (Iss.mk 6 ((l.map De.cells).length:Nat) dnm)],rfl,?_⟩
    refine⟨by show 0+1<=1;decide,[Iss.cells (Iss.mk 2 ((l.map De.cells).length:Nat) dnm)],rfl,by show(1+1) * 32<=140737488355328;decide,[Iss.cells (Iss.mk 2 ((l.map De.cells).length:Nat) dnm),Iss.cells (Iss.mk 6 ((l.map De.cells).length:Nat) dnm)],rfl,?_⟩
    exact⟨Nat × List Iss,(fun x=>[(0, .p (des l)),(2, .p (i64 g)),(4, .ptr 0 0 0),(7, .sl 1 3 0 x.2.length),(8, .p (i64 (l.map De.cells).length)),(13, .p (i64 x.1))]),(fun x=>⟨2,[(1,isO x.2),(0,dcO ⟨4,dn,dnm,dpl,drs,dcs⟩)]⟩),(fun x=>x.1<=drs.length/\x.2++qAQ l ⟨4,dn,dnm,dpl,drs,dcs⟩ (drs.take x.1) (drs.drop x.1)=qCM l ⟨4,dn,dnm,dpl,drs,dcs⟩++qAQ l ⟨4,dn,dnm,dpl,drs,dcs⟩ [] drs),(fun x=>drs.length - x.1),⟨(0,[Iss.mk 2 ((l.map De.cells).length:Nat) dnm,Iss.mk 6 ((l.map De.cells).length:Nat) dnm]),⟨Nat.zero_le _,by show [Iss.mk 2 ((l.map De.cells).length:Nat) dnm,Iss.mk 6 ((l.map De.cells).length:Nat) dnm]++_=_;rw [hpre,hT1,hc];rfl⟩,qAA [] [(1,5)] [] rfl (sk) (sk) rfl⟩,key.get⟩
   ·have c2:¬ 4<dn:=c2
    have hc:qAd l ⟨4,dn,dnm,dpl,drs,dcs⟩=[]:=by rw [qAd,if_neg (show ¬ (dn<2∨4<dn) by omega)]
    exact⟨Nat × List Iss,(fun x=>[(0, .p (des l)),(2, .p (i64 g)),(4, .ptr 0 0 0),(7, .sl 1 3 0 x.2.length),(8, .p (i64 (l.map De.cells).length)),(13, .p (i64 x.1))]),(fun x=>⟨2,[(1,isO x.2),(0,dcO ⟨4,dn,dnm,dpl,drs,dcs⟩)]⟩),(fun x=>x.1<=drs.length/\x.2++qAQ l ⟨4,dn,dnm,dpl,drs,dcs⟩ (drs.take x.1) (drs.drop x.1)=qCM l ⟨4,dn,dnm,dpl,drs,dcs⟩++qAQ l ⟨4,dn,dnm,dpl,drs,dcs⟩ [] drs),(fun x=>drs.length - x.1),⟨(0,[Iss.mk 2 ((l.map De.cells).length:Nat) dnm]),⟨Nat.zero_le _,by show [Iss.mk 2 ((l.map De.cells).length:Nat) dnm]++_=_;rw [hpre,hT1,hc];rfl⟩,qAA [] [(1,3)] [] rfl (sk) (sk) rfl⟩,key.get⟩
 case k=>
  rintro⟨k,cur⟩ ⟨k1,k2⟩
  simp only [] at k1 k2
  have hcl:cur.length<=400:=by
   have e:=congrArg List.length k2
   rw [List.length_append,List.length_append] at e
   omega
  refine QAD (fun m1=>?_) (fun m1=>?_)
  rotate_left
  ·have m1:¬ (k:Int)<((drs.map Rf.cells).length:Nat):=m1
   rw [List.length_map] at m1
   rw [List.drop_eq_nil_of_le (by omega),qAQ,List.append_nil] at k2
   refine⟨Nat × List Iss,fun x=>[(0, .p (des l)),(2, .p (i64 g)),(4, .ptr 0 0 0),(7, .sl 1 3 0 x.2.length),(8, .p (i64 (l.map De.cells).length)),(17, .p (i64 x.1))],fun x=>⟨2,[(1,isO x.2),(0,dcO ⟨4,dn,dnm,dpl,drs,dcs⟩)]⟩,fun x=>x.1<=dcs.length/\x.2++qAo l ⟨4,dn,dnm,dpl,drs,dcs⟩ g (dcs.drop x.1)=cur++qAo l ⟨4,dn,dnm,dpl,drs,dcs⟩ g dcs,fun x=>dcs.length - x.1,?_,?_⟩
   ·exact⟨(0,cur),⟨Nat.zero_le _,rfl⟩,qAA [] [] [] rfl (sk) (sk) rfl⟩
   rintro⟨j,cu⟩ ⟨j1,j2⟩
   simp only [] at j1 j2
   have htot:(cur++qAo l ⟨4,dn,dnm,dpl,drs,dcs⟩ g dcs).length<=1000:=by rw [List.length_append];omega
   refine QAD (fun n1=>?_) (fun n1=>?_)
   rotate_left
   ·have n1:¬ (j:Int)<((dcs.map Cs.cells).length:Nat):=n1
    rw [List.length_map] at n1
    rw [List.drop_eq_nil_of_le (by omega),show qAo l ⟨4,dn,dnm,dpl,drs,dcs⟩ g []=[] from rfl,List.append_nil] at j2
    exact qAF (isl cu) rfl ⟨_,rfl,by show 0+cu.length<=(cu.map Iss.cells).length;simp,qAD (by simp)⟩ (by rw [j2,k2,List.append_assoc])
   have n1:(j:Int)<((dcs.map Cs.cells).length:Nat):=n1
   rw [List.length_map] at n1
   have hj:j<dcs.length:=by omega
   have hcell:=qHm hj
   have hx:=(hca _ (qAI cs0 hj)).ok
   rw [qBt cs0 hj,qBp,<- List.append_assoc,<- List.append_assoc] at j2
   rw [<- j2,List.length_append,List.length_append] at htot
   generalize dcs.getD j cs0=x at hcell hx j2 htot
   obtain⟨⟨xo,xn,xr,xv,xf,xs,xa⟩,xw⟩:=x
   obtain⟨x1,x2,x3⟩:=hx
   simp only [] at x1 x2 x3 j2 htot
   have hr:=qGP ⟨4,dn,dnm,dpl,drs,dcs⟩ xw g x2 x3
   refine qAG qRa (by kernel_rfl) ?_
   refine⟨_,⟨by omega,(⟨.mk xo xn xr xv xf xs xa,xw⟩:Cs).cells,hcell,rfl⟩,?_⟩
   refine(qG3 l ⟨4,dn,dnm,dpl,drs,dcs⟩ (by show drs.length<=100;omega) hl hok _ (.mk xo xn xr xv xf xs xa) cu (Nat.le_refl _) x1 (by omega)).holds.useT [] [(0,1)] rfl (sk) (sk) fun e0 H0 hq=>?_
   obtain⟨rfl,rfl⟩:=hq
   have hnl:(cu++qBC l ⟨4,dn,dnm,dpl,drs,dcs⟩ (.mk xo xn xr xv xf xs xa)).length<=1000:=by omega
   generalize cu++qBC l ⟨4,dn,dnm,dpl,drs,dcs⟩ (.mk xo xn xr xv xf xs xa)=nxt at j2 hnl ⊢
   refine⟨rfl,_,⟨3,(2,isO nxt)::[(0,dcO ⟨4,dn,dnm,dpl,drs,dcs⟩)]⟩,rfl,rfl,?_⟩
   refine qAG qRZ (by kernel_rfl) ?_
   refine⟨_,⟨by omega,(⟨.mk xo xn xr xv xf xs xa,xw⟩:Cs).cells,hcell,rfl⟩,?_⟩
   by_cases hrow:qI2 ⟨4,dn,dnm,dpl,drs,dcs⟩ xw g=true
   ·rw [hrow] at hr j2
    rw [if_pos rfl,List.append_nil] at j2
    refine hr.eq rfl ?_
    refine⟨_,w6z,?_⟩
    exact⟨(j+1,nxt),⟨by show j+1<=dcs.length;omega,j2⟩,qAA [] [(1,2)] [] rfl (sk) (sk) rfl,by show dcs.length - (j+1)<dcs.length - j;omega⟩
   ·rw [Bool.not_eq_true] at hrow
    rw [hrow] at hr j2
    rw [if_neg (by decide),<- hm] at j2
    refine hr.eq rfl ?_
    refine⟨by show 0+1<=1;omega,[Iss.cells (Iss.mk 9 ((l.map De.cells).length:Nat) [])],rfl,?_⟩
    refine⟨by show 0+(nxt.length)<=((nxt).map Iss.cells).length;simp,(nxt).map Iss.cells,qAD (by simp),by show((nxt.length)+1) * 32<=140737488355328;omega,((nxt)++[Iss.mk 9 ((l.map De.cells).length:Nat) []]).map Iss.cells,by rw [List.map_append];rfl,?_⟩
    refine⟨_,w6z,?_⟩
    exact⟨(j+1,nxt++[Iss.mk 9 ((l.map De.cells).length:Nat) []]),⟨by show j+1<=dcs.length;omega,j2⟩,qAA [] [(1,4)] [] rfl ⟨rfl,rfl,⟨rfl,rfl⟩,congrArg (fun j:Nat=>AV.sl 4 3 0 j) (qAN _ _).symm,rfl,rfl,trivial⟩ (sk) rfl,by show dcs.length - (j+1)<dcs.length - j;omega⟩
  have m1:(k:Int)<((drs.map Rf.cells).length:Nat):=m1
  rw [List.length_map] at m1
  have hk:k<drs.length:=by omega
  have hcell:=qC6 hk
  have hxn:=hrn _ (qAI rf0 hk)
  have hstep:qAQ l ⟨4,dn,dnm,dpl,drs,dcs⟩ (drs.take k) (drs.drop k)=(if drs.getD k rf0∈drs.take k then [⟨2,((l.map De.cells).length:Nat),(drs.getD k rf0).name⟩] else [])++(qBb (qF9 l ⟨4,dn,dnm,dpl,drs,dcs⟩ (drs.getD k rf0)) ((l.map De.cells).length:Nat) (drs.getD k rf0).name++qAQ l ⟨4,dn,dnm,dpl,drs,dcs⟩ (drs.take (k+1)) (drs.drop (k+1))):=by
   rw [qBt rf0 hk,qAQ,hm,qAE rf0 hk]
  generalize drs.getD k rf0=x at hcell hxn hstep
  have hRf:=qIy l ⟨4,dn,dnm,dpl,drs,dcs⟩ x hxn hl hok
  have hnn:=qI8 l ⟨4,dn,dnm,dpl,drs,dcs⟩ x
  generalize qF9 l ⟨4,dn,dnm,dpl,drs,dcs⟩ x=kk at hRf hnn hstep
  refine⟨Nat × Bool,fun y=>[(0, .p (des l)),(2, .p (i64 g)),(4, .ptr 0 0 0),(7, .sl 1 3 0 cur.length),(8, .p (i64 (l.map De.cells).length)),(13, .p (i64 k)),(14, .p (.bool y.2)),(15, .p (i64 y.1))],fun _=>⟨2,[(1,isO cur),(0,dcO ⟨4,dn,dnm,dpl,drs,dcs⟩)]⟩,fun y=>y.1<=k/\y.2=decide (x∈drs.take y.1),fun y=>k - y.1,?_,?_⟩
  ·exact⟨(0,false),⟨Nat.zero_le _,by simp⟩,qAA [] [] [] rfl (sk) (sk) rfl⟩
  rintro⟨j,b⟩ ⟨j1,j2⟩
  simp only [] at j1 j2
  cases b
  ·refine QAD (fun n1=>?_) (fun n1=>?_)
   ·have n1:(j:Int)<(k:Nat):=n1
    have hj:j<drs.length:=by omega
    have hcj:=qC6 hj
    have hnx:(x∈drs.take (j+1)) ↔ (x∈drs.take j∨x=drs.getD j rf0):=by rw [qAE rf0 hj,List.mem_append,List.mem_singleton]
    generalize drs.getD j rf0=y at hcj hnx
    refine qAG qKI (by kernel_rfl) ?_
    refine⟨_,⟨by omega,y.cells,hcj,rfl⟩,?_⟩
    refine⟨_,⟨by omega,x.cells,hcell,rfl⟩,?_⟩
    refine⟨⟨by kernel_rfl,by kernel_rfl⟩,fun e1=>?_,fun e1=>?_⟩
    ·have e1:y=x:=qDk (by first | exact e1 | (injection e1))
     refine⟨_,w6z,?_⟩
     exact⟨(j+1,true),⟨by show j+1<=k;omega,(decide_eq_true (hnx.2 (.inr e1.symm))).symm⟩,qAA [] [] [] rfl (sk) (sk) rfl,by show k - (j+1)<k - j;omega⟩
    ·have e1:¬ y=x:=fun e=>e1 (by rw [e])
     have hno:¬ x∈drs.take j:=of_decide_eq_false j2.symm
     refine⟨_,w6z,?_⟩
     exact⟨(j+1,false),⟨by show j+1<=k;omega,(decide_eq_false (fun h=>(hnx.1 h).elim hno fun e=>e1 e.symm)).symm⟩,qAA [] [] [] rfl (sk) (sk) rfl,by show k - (j+1)<k - j;omega⟩
   ·have n1:¬ (j:Int)<(k:Nat):=n1
    have hjk:j=k:=by omega
    have hno:¬ x∈drs.take k:=by rw [hjk] at j2;exact of_decide_eq_false j2.symm
    rw [if_neg hno] at hstep
    clear hjk n1 j1 j2
    refine qAG qKH (by kernel_rfl) ?_
    refine⟨_,⟨by omega,x.cells,hcell,rfl⟩,?_⟩
    refine hRf.eq rfl ?_
    refine qAH (fun z=>?_) (fun z=>?_)
    ·have z:0<kk:=z
     rw [qBb,if_neg (show ¬ kk=0 by omega)] at hstep
     refine⟨_,⟨by omega,x.cells,hcell,rfl⟩,?_⟩
     refine⟨by show 0+1<=1;omega,[Iss.cells (Iss.mk kk ((l.map De.cells).length:Nat) x.name)],rfl,?_⟩
     refine⟨by show 0+(cur.length)<=((cur).map Iss.cells).length;simp,(cur).map Iss.cells,qAD (by simp),by show((cur.length)+1) * 32<=140737488355328;omega,((cur)++[Iss.mk kk ((l.map De.cells).length:Nat) x.name]).map Iss.cells,by rw [List.map_append];rfl,?_⟩
     refine⟨_,w6z,?_⟩
     exact⟨(k+1,(cur)++[Iss.mk kk ((l.map De.cells).length:Nat) x.name]),⟨by show k+1<=drs.length;omega,by rw [<- k2];rw [hstep,List.append_assoc] <;> rfl⟩,qAA [] [(1,3)] [] rfl ⟨rfl,rfl,⟨rfl,rfl⟩,congrArg (fun j:Nat=>AV.sl 3 3 0 j) (qAN cur _).symm,rfl,rfl,trivial⟩ (sk) rfl,by show drs.length - (k+1)<drs.length - k;omega⟩
    ·have z:¬ 0<kk:=z
     rw [qBb,if_pos (show kk=0 by omega)] at hstep
     refine⟨_,w6z,?_⟩
     exact⟨(k+1,cur),⟨by show k+1<=drs.length;omega,by rw [<- k2];rw [hstep] <;> rfl⟩,qAA [] [(1,1)] [] rfl ⟨rfl,rfl,⟨rfl,rfl⟩,rfl,rfl,rfl,trivial⟩ (sk) rfl,by show drs.length - (k+1)<drs.length - k;omega⟩
  ·refine QAD (fun n1=>?_) (fun n1=>?_)
   ·have n1:(j:Int)<(k:Nat):=n1
    have hj:j<drs.length:=by omega
    have hnx:(x∈drs.take (j+1)) ↔ (x∈drs.take j∨x=drs.getD j rf0):=by rw [qAE rf0 hj,List.mem_append,List.mem_singleton]
    have hyes:x∈drs.take j:=of_decide_eq_true j2.symm
    refine qAG qKI (by kernel_rfl) ?_
    refine⟨_,w6z,?_⟩
    exact⟨(j+1,true),⟨by show j+1<=k;omega,(decide_eq_true (hnx.2 (.inl hyes))).symm⟩,qAA [] [] [] rfl (sk) (sk) rfl,by show k - (j+1)<k - j;omega⟩
   ·have n1:¬ (j:Int)<(k:Nat):=n1
    have hjk:j=k:=by omega
    have hyes:x∈drs.take k:=by rw [hjk] at j2;exact of_decide_eq_true j2.symm
    rw [if_pos hyes] at hstep
    clear hjk n1 j1 j2
    refine⟨_,⟨by omega,x.cells,hcell,rfl⟩,?_⟩
    refine⟨by show 0+1<=1;omega,[Iss.cells (Iss.mk 2 ((l.map De.cells).length:Nat) x.name)],rfl,?_⟩
    refine⟨by show 0+(cur.length)<=((cur).map Iss.cells).length;simp,(cur).map Iss.cells,qAD (by simp),by show((cur.length)+1) * 32<=140737488355328;omega,((cur)++[Iss.mk 2 ((l.map De.cells).length:Nat) x.name]).map Iss.cells,by rw [List.map_append];rfl,?_⟩
    refine qAG qKH (by kernel_rfl) ?_
    refine⟨_,⟨by omega,x.cells,hcell,rfl⟩,?_⟩
    refine hRf.eq rfl ?_
    refine qAH (fun z=>?_) (fun z=>?_)
    ·have z:0<kk:=z
     rw [qBb,if_neg (show ¬ kk=0 by omega)] at hstep
     refine⟨_,⟨by omega,x.cells,hcell,rfl⟩,?_⟩
     refine⟨by show 0+1<=1;omega,[Iss.cells (Iss.mk kk ((l.map De.cells).length:Nat) x.name)],rfl,?_⟩
     refine⟨by show 0+(cur.length+1)<=((cur++[Iss.mk 2 ((l.map De.cells).length:Nat) x.name]).map Iss.cells).length;simp,(cur++[Iss.mk 2 ((l.map De.cells).length:Nat) x.name]).map Iss.cells,qAD (by simp),by show((cur.length+1)+1) * 32<=140737488355328;omega,((cur++[Iss.mk 2 ((l.map De.cells).length:Nat) x.name])++[Iss.mk kk ((l.map De.cells).length:Nat) x.name]).map Iss.cells,by rw [List.map_append];rfl,?_⟩
     refine⟨_,w6z,?_⟩
     exact⟨(k+1,(cur++[Iss.mk 2 ((l.map De.cells).length:Nat) x.name])++[Iss.mk kk ((l.map De.cells).length:Nat) x.name]),⟨by show k+1<=drs.length;omega,by rw [<- k2];rw [hstep,List.append_assoc,List.append_assoc] <;> rfl⟩,qAA [] [(1,5)] [] rfl ⟨rfl,rfl,⟨rfl,rfl⟩,congrArg (fun j:Nat=>AV.sl 5 3 0 j) ((qAN _ _).trans (congrArg (fun z:Nat=>z+1) (qAN cur _))).symm,rfl,rfl,trivial⟩ (sk) rfl,by show drs.length - (k+1)<drs.length - k;omega⟩
    ·have z:¬ 0<kk:=z
     rw [qBb,if_pos (show kk=0 by omega)] at hstep
     refine⟨_,w6z,?_⟩
     exact⟨(k+1,cur++[Iss.mk 2 ((l.map De.cells).length:Nat) x.name]),⟨by show k+1<=drs.length;omega,by rw [<- k2];rw [hstep,List.append_assoc] <;> rfl⟩,qAA [] [(1,3)] [] rfl ⟨rfl,rfl,⟨rfl,rfl⟩,congrArg (fun j:Nat=>AV.sl 3 3 0 j) (qAN cur _).symm,rfl,rfl,trivial⟩ (sk) rfl,by show drs.length - (k+1)<drs.length - k;omega⟩
theorem qUh (l:List De) (dn:Int) (dnm dpl:List UInt8) (drs:List Rf) (dcs:List Cs) (g:Int) (hd:DcV ⟨2,dn,dnm,dpl,drs,dcs⟩) (hl:l.length<=1000) (hok:∀ d∈l,OkD d):Pure cx 56 [des l,(De.mk 2 dn dnm dpl drs dcs).pv,i64 g] (·=.ret [isl (qCM l ⟨2,dn,dnm,dpl,drs,dcs⟩++(qAQ l ⟨2,dn,dnm,dpl,drs,dcs⟩ [] drs++qAo l ⟨2,dn,dnm,dpl,drs,dcs⟩ g dcs))]):=by
 have hm:(l.map De.cells).length=l.length:=List.length_map ..
 have hdr:drs.length<=8:=hd.refs
 have hcs:dcs.length<=12:=hd.few
 have hca:∀ c∈dcs,CaV c:=hd.cases
 have hrn:∀ r∈drs,r.name ≠ []:=hd.ok.ok.refs
 have hbare:(2:Int)=1∨(2:Int)=5->dnm=[]:=hd.ok.ok.bare
 have hname:(2:Int)=2∨(2:Int)=3∨(2:Int)=4->dnm ≠ []:=hd.ok.ok.name
 have hplate:¬ (2:Int)=3->dpl=[]:=hd.ok.ok.plate
 have t1:=qGR l ⟨2,dn,dnm,dpl,drs,dcs⟩
 have t2:=qDB l ⟨2,dn,dnm,dpl,drs,dcs⟩ drs []
 have t3:=qCZ l ⟨2,dn,dnm,dpl,drs,dcs⟩ g dcs hca
 have hnm:=hname (.inl rfl)
 have hpl:=hplate (by decide)
 have hpre:qCM l ⟨2,dn,dnm,dpl,drs,dcs⟩=qA7 l ⟨2,dn,dnm,dpl,drs,dcs⟩++qDx l ⟨2,dn,dnm,dpl,drs,dcs⟩:=rfl
 have hT:=qEZ l (d:=⟨2,dn,dnm,dpl,drs,dcs⟩) hnm hl hok
 refine qAB Tryz.func56 rfl rfl rfl ?_
 apply cut
 case h=>
  intro key
  refine And.intro (fun h=>absurd (show(2:Int)=1 from h) (by decide)) (fun _=>?_)
  refine Or.elim hT (fun hT=>?_) (fun hT=>?_)
  ·obtain⟨hT1,hT2⟩:=hT
   refine hT2.eq rfl ?_
   refine And.intro (fun _=>?_) (fun h=>absurd rfl h)
   refine qAH (fun c1=>?_) (fun c1=>?_)
   ·have c1:dn<1:=c1
    have hc:qDx l ⟨2,dn,dnm,dpl,drs,dcs⟩=[Iss.mk 5 ((l.map De.cells).length:Nat) dnm]:=by rw [qDx,if_pos (.inl c1),hm]
    refine⟨by show 0+1<=1;omega,[Iss.cells (Iss.mk 5 ((l.map De.cells).length:Nat) dnm)],rfl,?_⟩
    refine⟨by show 1 * 32<=140737488355328;decide,?_⟩
    refine And.intro (fun _=>?_) (fun h=>absurd hpl h)
    refine And.intro (fun h=>absurd (show(2:Int)=3 from h) (by decide)) (fun _=>?_)
    refine And.intro (fun h=>absurd (show(2:Int)=4 from h) (by decide)) (fun _=>?_)
    exact⟨Nat × List Iss,(fun x=>[(0, .p (des l)),(2, .p (i64 g)),(4, .ptr 0 0 0),(7, .sl 1 3 0 x.2.length),(8, .p (i64 (l.map De.cells).length)),(13, .p (i64 x.1))]),(fun x=>⟨2,[(1,isO x.2),(0,dcO ⟨2,dn,dnm,dpl,drs,dcs⟩)]⟩),(fun x=>x.1<=drs.length/\x.2++qAQ l ⟨2,dn,dnm,dpl,drs,dcs⟩ (drs.take x.1) (drs.drop x.1)=qCM l ⟨2,dn,dnm,dpl,drs,dcs⟩++qAQ l ⟨2,dn,dnm,dpl,drs,dcs⟩ [] drs),(fun x=>drs.length - x.1),⟨(0,[Iss.mk 5 ((l.map De.cells).length:Nat) dnm]),⟨Nat.zero_le _,by show [Iss.mk 5 ((l.map De.cells).length:Nat) dnm]++_=_;rw [hpre,hT1,hc];rfl⟩,qAA [] [(1,3)] [] rfl (sk) (sk) rfl⟩,key.get⟩
   have c1:¬ dn<1:=c1
   refine qAH (fun c2=>?_) (fun c2=>?_)
   ·have c2:6<dn:=c2
    have hc:qDx l ⟨2,dn,dnm,dpl,drs,dcs⟩=[Iss.mk 5 ((l.map De.cells).length:Nat) dnm]:=by rw [qDx,if_pos (.inr c2),hm]
    refine⟨by show 0+1<=1;omega,[Iss.cells (Iss.mk 5 ((l.map De.cells).length:Nat) dnm)],rfl,?_⟩
    refine⟨by show 1 * 32<=140737488355328;decide,?_⟩
    refine And.intro (fun _=>?_) (fun h=>absurd hpl h)
    refine And.intro (fun h=>absurd (show(2:Int)=3 from h) (by decide)) (fun _=>?_)
    refine And.intro (fun h=>absurd (show(2:Int)=4 from h) (by decide)) (fun _=>?_)
    exact⟨Nat × List Iss,(fun x=>[(0, .p (des l)),(2, .p (i64 g)),(4, .ptr 0 0 0),(7, .sl 1 3 0 x.2.length),(8, .p (i64 (l.map De.cells).length)),(13, .p (i64 x.1))]),(fun x=>⟨2,[(1,isO x.2),(0,dcO ⟨2,dn,dnm,dpl,drs,dcs⟩)]⟩),(fun x=>x.1<=drs.length/\x.2++qAQ l ⟨2,dn,dnm,dpl,drs,dcs⟩ (drs.take x.1) (drs.drop x.1)=qCM l ⟨2,dn,dnm,dpl,drs,dcs⟩++qAQ l ⟨2,dn,dnm,dpl,drs,dcs⟩ [] drs),(fun x=>drs.length - x.1),⟨(0,[Iss.mk 5 ((l.map De.cells).length:Nat) dnm]),⟨Nat.zero_le _,by show [Iss.mk 5 ((l.map De.cells).length:Nat) dnm]++_=_;rw [hpre,hT1,hc];rfl⟩,qAA [] [(1,3)] [] rfl (sk) (sk) rfl⟩,key.get⟩
   ·have c2:¬ 6<dn:=c2
    have hc:qDx l ⟨2,dn,dnm,dpl,drs,dcs⟩=[]:=by rw [qDx,if_neg (show ¬ (dn<1∨6<dn) by omega)]
    refine And.intro (fun _=>?_) (fun h=>absurd hpl h)
    refine And.intro (fun h=>absurd (show(2:Int)=3 from h) (by decide)) (fun _=>?_)
    refine And.intro (fun h=>absurd (show(2:Int)=4 from h) (by decide)) (fun _=>?_)
    exact⟨Nat × List Iss,(fun x=>[(0, .p (des l)),(2, .p (i64 g)),(4, .ptr 0 0 0),(7, .sl 1 3 0 x.2.length),(8, .p (i64 (l.map De.cells).length)),(13, .p (i64 x.1))]),(fun x=>⟨2,[(1,isO x.2),(0,dcO ⟨2,dn,dnm,dpl,drs,dcs⟩)]⟩),(fun x=>x.1<=drs.length/\x.2++qAQ l ⟨2,dn,dnm,dpl,drs,dcs⟩ (drs.take x.1) (drs.drop x.1)=qCM l ⟨2,dn,dnm,dpl,drs,dcs⟩++qAQ l ⟨2,dn,dnm,dpl,drs,dcs⟩ [] drs),(fun x=>drs.length - x.1),⟨(0,[]),⟨Nat.zero_le _,by show []++_=_;rw [hpre,hT1,hc];rfl⟩,qAA [] [] [(1,3)] rfl (sk) (sk) rfl⟩,key.get⟩
  ·obtain⟨z1,z2,z3,z4,z5,hT1,hT2⟩:=hT
   refine hT2.eq rfl ?_
   refine And.intro (fun h=>absurd h hnm) (fun _=>?_)
   refine⟨by show 0+1<=1;omega,[Iss.cells (Iss.mk 2 ((l.map De.cells).length:Nat) dnm)],rfl,?_⟩
   refine⟨by show 1 * 32<=140737488355328;decide,?_⟩
   refine And.intro (fun _=>?_) (fun h=>absurd rfl h)
   refine qAH (fun c1=>?_) (fun c1=>?_)
   ·have c1:dn<1:=c1
    have hc:qDx l ⟨2,dn,dnm,dpl,drs,dcs⟩=[Iss.mk 5 ((l.map De.cells).length:Nat) dnm]:=by rw [qDx,if_pos (.inl c1),hm]
    refine⟨by show 0+1<=1;omega,[Iss.cells (Iss.mk 5 ((l.map De.cells).length:Nat) dnm)],rfl,?_⟩
    refine⟨by show 0+1<=1;decide,[Iss.cells (Iss.mk 2 ((l.map De.cells).length:Nat) dnm)],rfl,by show(1+1) * 32<=140737488355328;decide,[Iss.cells (Iss.mk 2 ((l.map De.cells).length:Nat) dnm),Iss.cells (Iss.mk 5 ((l.map De.cells).length:Nat) dnm)],rfl,?_⟩
    refine And.intro (fun _=>?_) (fun h=>absurd hpl h)
    refine And.intro (fun h=>absurd (show(2:Int)=3 from h) (by decide)) (fun _=>?_)
    refine And.intro (fun h=>absurd (show(2:Int)=4 from h) (by decide)) (fun _=>?_)
    exact⟨Nat × List Iss,(fun x=>[(0, .p (des l)),(2, .p (i64 g)),(4, .ptr 0 0 0),(7, .sl 1 3 0 x.2.length),(8, .p (i64 (l.map De.cells).length)),(13, .p (i64 x.1))]),(fun x=>⟨2,[(1,isO x.2),(0,dcO ⟨2,dn,dnm,dpl,drs,dcs⟩)]⟩),(fun x=>x.1<=drs.length/\x.2++qAQ l ⟨2,dn,dnm,dpl,drs,dcs⟩ (drs.take x.1) (drs.drop x.1)=qCM l ⟨2,dn,dnm,dpl,drs,dcs⟩++qAQ l ⟨2,dn,dnm,dpl,drs,dcs⟩ [] drs),(fun x=>drs.length - x.1),⟨(0,[Iss.mk 2 ((l.map De.cells).length:Nat) dnm,Iss.mk 5 ((l.map De.cells).length:Nat) dnm]),⟨Nat.zero_le _,by show [Iss.mk 2 ((l.map De.cells).length:Nat) dnm,Iss.mk 5 ((l.map De.cells).length:Nat) dnm]++_=_;rw [hpre,hT1,hc];rfl⟩,qAA [] [(1,5)] [] rfl (sk) (sk) rfl⟩,key.get⟩
   have c1:¬ dn<1:=c1
   refine qAH (fun c2=>?_) (fun c2=>?_)
   ·have c2:6<dn:=c2
    have hc:qDx l ⟨2,dn,dnm,dpl,drs,dcs⟩=[Iss.mk 5 ((l.map De.cells).length:Nat) dnm]:=by rw [qDx,if_pos (.inr c2),hm]
    refine⟨by show 0+1<=1;omega,[Iss.cells (Iss.mk 5 ((l.map De.cells).length:Nat) dnm)],rfl,?_⟩
    refine⟨by show 0+1<=1;decide,[Iss.cells (Iss.mk 2 ((l.map De.cells).length:Nat) dnm)],rfl,by show(1+1) * 32<=140737488355328;decide,[Iss.cells (Iss.mk 2 ((l.map De.cells).length:Nat) dnm),Iss.cells (Iss.mk 5 ((l.map De.cells).length:Nat) dnm)],rfl,?_⟩
    refine And.intro (fun _=>?_) (fun h=>absurd hpl h)
    refine And.intro (fun h=>absurd (show(2:Int)=3 from h) (by decide)) (fun _=>?_)
    refine And.intro (fun h=>absurd (show(2:Int)=4 from h) (by decide)) (fun _=>?_)
    exact⟨Nat × List Iss,(fun x=>[(0, .p (des l)),(2, .p (i64 g)),(4, .ptr 0 0 0),(7, .sl 1 3 0 x.2.length),(8, .p (i64 (l.map De.cells).length)),(13, .p (i64 x.1))]),(fun x=>⟨2,[(1,isO x.2),(0,dcO ⟨2,dn,dnm,dpl,drs,dcs⟩)]⟩),(fun x=>x.1<=drs.length/\x.2++qAQ l ⟨2,dn,dnm,dpl,drs,dcs⟩ (drs.take x.1) (drs.drop x.1)=qCM l ⟨2,dn,dnm,dpl,drs,dcs⟩++qAQ l ⟨2,dn,dnm,dpl,drs,dcs⟩ [] drs),(fun x=>drs.length - x.1),⟨(0,[Iss.mk 2 ((l.map De.cells).length:Nat) dnm,Iss.mk 5 ((l.map De.cells).length:Nat) dnm]),⟨Nat.zero_le _,by show [Iss.mk 2 ((l.map De.cells).length:Nat) dnm,Iss.mk 5 ((l.map De.cells).length:Nat) dnm]++_=_;rw [hpre,hT1,hc];rfl⟩,qAA [] [(1,5)] [] rfl (sk) (sk) rfl⟩,key.get⟩
   ·have c2:¬ 6<dn:=c2
    have hc:qDx l ⟨2,dn,dnm,dpl,drs,dcs⟩=[]:=by rw [qDx,if_neg (show ¬ (dn<1∨6<dn) by omega)]
    refine And.intro (fun _=>?_) (fun h=>absurd hpl h)
    refine And.intro (fun h=>absurd (show(2:Int)=3 from h) (by decide)) (fun _=>?_)
    refine And.intro (fun h=>absurd (show(2:Int)=4 from h) (by decide)) (fun _=>?_)
    exact⟨Nat × List Iss,(fun x=>[(0, .p (des l)),(2, .p (i64 g)),(4, .ptr 0 0 0),(7, .sl 1 3 0 x.2.length),(8, .p (i64 (l.map De.cells).length)),(13, .p (i64 x.1))]),(fun x=>⟨2,[(1,isO x.2),(0,dcO ⟨2,dn,dnm,dpl,drs,dcs⟩)]⟩),(fun x=>x.1<=drs.length/\x.2++qAQ l ⟨2,dn,dnm,dpl,drs,dcs⟩ (drs.take x.1) (drs.drop x.1)=qCM l ⟨2,dn,dnm,dpl,drs,dcs⟩++qAQ l ⟨2,dn,dnm,dpl,drs,dcs⟩ [] drs),(fun x=>drs.length - x.1),⟨(0,[Iss.mk 2 ((l.map De.cells).length:Nat) dnm]),⟨Nat.zero_le _,by show [Iss.mk 2 ((l.map De.cells).length:Nat) dnm]++_=_;rw [hpre,hT1,hc];rfl⟩,qAA [] [(1,3)] [] rfl (sk) (sk) rfl⟩,key.get⟩
 case k=>
  rintro⟨k,cur⟩ ⟨k1,k2⟩
  simp only [] at k1 k2
  have hcl:cur.length<=400:=by
   have e:=congrArg List.length k2
   rw [List.length_append,List.length_append] at e
   omega
  refine QAD (fun m1=>?_) (fun m1=>?_)
  rotate_left
  ·have m1:¬ (k:Int)<((drs.map Rf.cells).length:Nat):=m1
   rw [List.length_map] at m1
   rw [List.drop_eq_nil_of_le (by omega),qAQ,List.append_nil] at k2
   refine⟨Nat × List Iss,fun x=>[(0, .p (des l)),(2, .p (i64 g)),(4, .ptr 0 0 0),(7, .sl 1 3 0 x.2.length),(8, .p (i64 (l.map De.cells).length)),(17, .p (i64 x.1))],fun x=>⟨2,[(1,isO x.2),(0,dcO ⟨2,dn,dnm,dpl,drs,dcs⟩)]⟩,fun x=>x.1<=dcs.length/\x.2++qAo l ⟨2,dn,dnm,dpl,drs,dcs⟩ g (dcs.drop x.1)=cur++qAo l ⟨2,dn,dnm,dpl,drs,dcs⟩ g dcs,fun x=>dcs.length - x.1,?_,?_⟩
   ·exact⟨(0,cur),⟨Nat.zero_le _,rfl⟩,qAA [] [] [] rfl (sk) (sk) rfl⟩
   rintro⟨j,cu⟩ ⟨j1,j2⟩
   simp only [] at j1 j2
   have htot:(cur++qAo l ⟨2,dn,dnm,dpl,drs,dcs⟩ g dcs).length<=1000:=by rw [List.length_append];omega
   refine QAD (fun n1=>?_) (fun n1=>?_)
   rotate_left
   ·have n1:¬ (j:Int)<((dcs.map Cs.cells).length:Nat):=n1
    rw [List.length_map] at n1
    rw [List.drop_eq_nil_of_le (by omega),show qAo l ⟨2,dn,dnm,dpl,drs,dcs⟩ g []=[] from rfl,List.append_nil] at j2
    exact qAF (isl cu) rfl ⟨_,rfl,by show 0+cu.length<=(cu.map Iss.cells).length;simp,qAD (by simp)⟩ (by rw [j2,k2,List.append_assoc])
   have n1:(j:Int)<((dcs.map Cs.cells).length:Nat):=n1
   rw [List.length_map] at n1
   have hj:j<dcs.length:=by omega
   have hcell:=qHm hj
   have hx:=(hca _ (qAI cs0 hj)).ok
   rw [qBt cs0 hj,qBp,<- List.append_assoc,<- List.append_assoc] at j2
   rw [<- j2,List.length_append,List.length_append] at htot
   generalize dcs.getD j cs0=x at hcell hx j2 htot
   obtain⟨⟨xo,xn,xr,xv,xf,xs,xa⟩,xw⟩:=x
   obtain⟨x1,x2,x3⟩:=hx
   simp only [] at x1 x2 x3 j2 htot
   have hr:=qGP ⟨2,dn,dnm,dpl,drs,dcs⟩ xw g x2 x3
   refine qAG qRa (by kernel_rfl) ?_
   refine⟨_,⟨by omega,(⟨.mk xo xn xr xv xf xs xa,xw⟩:Cs).cells,hcell,rfl⟩,?_⟩
   refine(qG3 l ⟨2,dn,dnm,dpl,drs,dcs⟩ (by show drs.length<=100;omega) hl hok _ (.mk xo xn xr xv xf xs xa) cu (Nat.le_refl _) x1 (by omega)).holds.useT [] [(0,1)] rfl (sk) (sk) fun e0 H0 hq=>?_
   obtain⟨rfl,rfl⟩:=hq
   have hnl:(cu++qBC l ⟨2,dn,dnm,dpl,drs,dcs⟩ (.mk xo xn xr xv xf xs xa)).length<=1000:=by omega
   generalize cu++qBC l ⟨2,dn,dnm,dpl,drs,dcs⟩ (.mk xo xn xr xv xf xs xa)=nxt at j2 hnl ⊢
   refine⟨rfl,_,⟨3,(2,isO nxt)::[(0,dcO ⟨2,dn,dnm,dpl,drs,dcs⟩)]⟩,rfl,rfl,?_⟩
   refine qAG qRZ (by kernel_rfl) ?_
   refine⟨_,⟨by omega,(⟨.mk xo xn xr xv xf xs xa,xw⟩:Cs).cells,hcell,rfl⟩,?_⟩
   by_cases hrow:qI2 ⟨2,dn,dnm,dpl,drs,dcs⟩ xw g=true
   ·rw [hrow] at hr j2
    rw [if_pos rfl,List.append_nil] at j2
    refine hr.eq rfl ?_
    refine⟨_,w6z,?_⟩
    exact⟨(j+1,nxt),⟨by show j+1<=dcs.length;omega,j2⟩,qAA [] [(1,2)] [] rfl (sk) (sk) rfl,by show dcs.length - (j+1)<dcs.length - j;omega⟩
   ·rw [Bool.not_eq_true] at hrow
    rw [hrow] at hr j2
    rw [if_neg (by decide),<- hm] at j2
    refine hr.eq rfl ?_
    refine⟨by show 0+1<=1;omega,[Iss.cells (Iss.mk 9 ((l.map De.cells).length:Nat) [])],rfl,?_⟩
    refine⟨by show 0+(nxt.length)<=((nxt).map Iss.cells).length;simp,(nxt).map Iss.cells,qAD (by simp),by show((nxt.length)+1) * 32<=140737488355328;omega,((nxt)++[Iss.mk 9 ((l.map De.cells).length:Nat) []]).map Iss.cells,by rw [List.map_append];rfl,?_⟩
    refine⟨_,w6z,?_⟩
    exact⟨(j+1,nxt++[Iss.mk 9 ((l.map De.cells).length:Nat) []]),⟨by show j+1<=dcs.length;omega,j2⟩,qAA [] [(1,4)] [] rfl ⟨rfl,rfl,⟨rfl,rfl⟩,congrArg (fun j:Nat=>AV.sl 4 3 0 j) (qAN _ _).symm,rfl,rfl,trivial⟩ (sk) rfl,by show dcs.length - (j+1)<dcs.length - j;omega⟩
  have m1:(k:Int)<((drs.map Rf.cells).length:Nat):=m1
  rw [List.length_map] at m1
  have hk:k<drs.length:=by omega
  have hcell:=qC6 hk
  have hxn:=hrn _ (qAI rf0 hk)
  have hstep:qAQ l ⟨2,dn,dnm,dpl,drs,dcs⟩ (drs.take k) (drs.drop k)=(if drs.getD k rf0∈drs.take k then [⟨2,((l.map De.cells).length:Nat),(drs.getD k rf0).name⟩] else [])++(qBb (qF9 l ⟨2,dn,dnm,dpl,drs,dcs⟩ (drs.getD k rf0)) ((l.map De.cells).length:Nat) (drs.getD k rf0).name++qAQ l ⟨2,dn,dnm,dpl,drs,dcs⟩ (drs.take (k+1)) (drs.drop (k+1))):=by
   rw [qBt rf0 hk,qAQ,hm,qAE rf0 hk]
  generalize drs.getD k rf0=x at hcell hxn hstep
  have hRf:=qIy l ⟨2,dn,dnm,dpl,drs,dcs⟩ x hxn hl hok
  have hnn:=qI8 l ⟨2,dn,dnm,dpl,drs,dcs⟩ x
  generalize qF9 l ⟨2,dn,dnm,dpl,drs,dcs⟩ x=kk at hRf hnn hstep
  refine⟨Nat × Bool,fun y=>[(0, .p (des l)),(2, .p (i64 g)),(4, .ptr 0 0 0),(7, .sl 1 3 0 cur.length),(8, .p (i64 (l.map De.cells).length)),(13, .p (i64 k)),(14, .p (.bool y.2)),(15, .p (i64 y.1))],fun _=>⟨2,[(1,isO cur),(0,dcO ⟨2,dn,dnm,dpl,drs,dcs⟩)]⟩,fun y=>y.1<=k/\y.2=decide (x∈drs.take y.1),fun y=>k - y.1,?_,?_⟩
  ·exact⟨(0,false),⟨Nat.zero_le _,by simp⟩,qAA [] [] [] rfl (sk) (sk) rfl⟩
  rintro⟨j,b⟩ ⟨j1,j2⟩
  simp only [] at j1 j2
  cases b
  ·refine QAD (fun n1=>?_) (fun n1=>?_)
   ·have n1:(j:Int)<(k:Nat):=n1
    have hj:j<drs.length:=by omega
    have hcj:=qC6 hj
    have hnx:(x∈drs.take (j+1)) ↔ (x∈drs.take j∨x=drs.getD j rf0):=by rw [qAE rf0 hj,List.mem_append,List.mem_singleton]
    generalize drs.getD j rf0=y at hcj hnx
    refine qAG qKI (by kernel_rfl) ?_
    refine⟨_,⟨by omega,y.cells,hcj,rfl⟩,?_⟩
    refine⟨_,⟨by omega,x.cells,hcell,rfl⟩,?_⟩
    refine⟨⟨by kernel_rfl,by kernel_rfl⟩,fun e1=>?_,fun e1=>?_⟩
    ·have e1:y=x:=qDk (by first | exact e1 | (injection e1))
     refine⟨_,w6z,?_⟩
     exact⟨(j+1,true),⟨by show j+1<=k;omega,(decide_eq_true (hnx.2 (.inr e1.symm))).symm⟩,qAA [] [] [] rfl (sk) (sk) rfl,by show k - (j+1)<k - j;omega⟩
    ·have e1:¬ y=x:=fun e=>e1 (by rw [e])
     have hno:¬ x∈drs.take j:=of_decide_eq_false j2.symm
     refine⟨_,w6z,?_⟩
     exact⟨(j+1,false),⟨by show j+1<=k;omega,(decide_eq_false (fun h=>(hnx.1 h).elim hno fun e=>e1 e.symm)).symm⟩,qAA [] [] [] rfl (sk) (sk) rfl,by show k - (j+1)<k - j;omega⟩
   ·have n1:¬ (j:Int)<(k:Nat):=n1
    have hjk:j=k:=by omega
    have hno:¬ x∈drs.take k:=by rw [hjk] at j2;exact of_decide_eq_false j2.symm
    rw [if_neg hno] at hstep
    clear hjk n1 j1 j2
    refine qAG qKH (by kernel_rfl) ?_
    refine⟨_,⟨by omega,x.cells,hcell,rfl⟩,?_⟩
    refine hRf.eq rfl ?_
    refine qAH (fun z=>?_) (fun z=>?_)
    ·have z:0<kk:=z
     rw [qBb,if_neg (show ¬ kk=0 by omega)] at hstep
     refine⟨_,⟨by omega,x.cells,hcell,rfl⟩,?_⟩
     refine⟨by show 0+1<=1;omega,[Iss.cells (Iss.mk kk ((l.map De.cells).length:Nat) x.name)],rfl,?_⟩
     refine⟨by show 0+(cur.length)<=((cur).map Iss.cells).length;simp,(cur).map Iss.cells,qAD (by simp),by show((cur.length)+1) * 32<=140737488355328;omega,((cur)++[Iss.mk kk ((l.map De.cells).length:Nat) x.name]).map Iss.cells,by rw [List.map_append];rfl,?_⟩
     refine⟨_,w6z,?_⟩
     exact⟨(k+1,(cur)++[Iss.mk kk ((l.map De.cells).length:Nat) x.name]),⟨by show k+1<=drs.length;omega,by rw [<- k2];rw [hstep,List.append_assoc] <;> rfl⟩,qAA [] [(1,3)] [] rfl ⟨rfl,rfl,⟨rfl,rfl⟩,congrArg (fun j:Nat=>AV.sl 3 3 0 j) (qAN cur _).symm,rfl,rfl,trivial⟩ (sk) rfl,by show drs.length - (k+1)<drs.length - k;omega⟩
    ·have z:¬ 0<kk:=z
     rw [qBb,if_pos (show kk=0 by omega)] at hstep
     refine⟨_,w6z,?_⟩
     exact⟨(k+1,cur),⟨by show k+1<=drs.length;omega,by rw [<- k2];rw [hstep] <;> rfl⟩,qAA [] [(1,1)] [] rfl ⟨rfl,rfl,⟨rfl,rfl⟩,rfl,rfl,rfl,trivial⟩ (sk) rfl,by show drs.length - (k+1)<drs.length - k;omega⟩
  ·refine QAD (fun n1=>?_) (fun n1=>?_)
   ·have n1:(j:Int)<(k:Nat):=n1
    have hj:j<drs.length:=by omega
    have hnx:(x∈drs.take (j+1)) ↔ (x∈drs.take j∨x=drs.getD j rf0):=by rw [qAE rf0 hj,List.mem_append,List.mem_singleton]
    have hyes:x∈drs.take j:=of_decide_eq_true j2.symm
    refine qAG qKI (by kernel_rfl) ?_
    refine⟨_,w6z,?_⟩
    exact⟨(j+1,true),⟨by show j+1<=k;omega,(decide_eq_true (hnx.2 (.inl hyes))).symm⟩,qAA [] [] [] rfl (sk) (sk) rfl,by show k - (j+1)<k - j;omega⟩
   ·have n1:¬ (j:Int)<(k:Nat):=n1
    have hjk:j=k:=by omega
    have hyes:x∈drs.take k:=by rw [hjk] at j2;exact of_decide_eq_true j2.symm
    rw [if_pos hyes] at hstep
    clear hjk n1 j1 j2
    refine⟨_,⟨by omega,x.cells,hcell,rfl⟩,?_⟩
    refine⟨by show 0+1<=1;omega,[Iss.cells (Iss.mk 2 ((l.map De.cells).length:Nat) x.name)],rfl,?_⟩
    refine⟨by show 0+(cur.length)<=((cur).map Iss.cells).length;simp,(cur).map Iss.cells,qAD (by simp),by show((cur.length)+1) * 32<=140737488355328;omega,((cur)++[Iss.mk 2 ((l.map De.cells).length:Nat) x.name]).map Iss.cells,by rw [List.map_append];rfl,?_⟩
    refine qAG qKH (by kernel_rfl) ?_
    refine⟨_,⟨by omega,x.cells,hcell,rfl⟩,?_⟩
    refine hRf.eq rfl ?_
    refine qAH (fun z=>?_) (fun z=>?_)
    ·have z:0<kk:=z
     rw [qBb,if_neg (show ¬ kk=0 by omega)] at hstep
     refine⟨_,⟨by omega,x.cells,hcell,rfl⟩,?_⟩
     refine⟨by show 0+1<=1;omega,[Iss.cells (Iss.mk kk ((l.map De.cells).length:Nat) x.name)],rfl,?_⟩
     refine⟨by show 0+(cur.length+1)<=((cur++[Iss.mk 2 ((l.map De.cells).length:Nat) x.name]).map Iss.cells).length;simp,(cur++[Iss.mk 2 ((l.map De.cells).length:Nat) x.name]).map Iss.cells,qAD (by simp),by show((cur.length+1)+1) * 32<=140737488355328;omega,((cur++[Iss.mk 2 ((l.map De.cells).length:Nat) x.name])++[Iss.mk kk ((l.map De.cells).length:Nat) x.name]).map Iss.cells,by rw [List.map_append];rfl,?_⟩
     refine⟨_,w6z,?_⟩
     exact⟨(k+1,(cur++[Iss.mk 2 ((l.map De.cells).length:Nat) x.name])++[Iss.mk kk ((l.map De.cells).length:Nat) x.name]),⟨by show k+1<=drs.length;omega,by rw [<- k2];rw [hstep,List.append_assoc,List.append_assoc] <;> rfl⟩,qAA [] [(1,5)] [] rfl ⟨rfl,rfl,⟨rfl,rfl⟩,congrArg (fun j:Nat=>AV.sl 5 3 0 j) ((qAN _ _).trans (congrArg (fun z:Nat=>z+1) (qAN cur _))).symm,rfl,rfl,trivial⟩ (sk) rfl,by show drs.length - (k+1)<drs.length - k;omega⟩
    ·have z:¬ 0<kk:=z
     rw [qBb,if_pos (show kk=0 by omega)] at hstep
     refine⟨_,w6z,?_⟩
     exact⟨(k+1,cur++[Iss.mk 2 ((l.map De.cells).length:Nat) x.name]),⟨by show k+1<=drs.length;omega,by rw [<- k2];rw [hstep,List.append_assoc] <;> rfl⟩,qAA [] [(1,3)] [] rfl ⟨rfl,rfl,⟨rfl,rfl⟩,congrArg (fun j:Nat=>AV.sl 3 3 0 j) (qAN cur _).symm,rfl,rfl,trivial⟩ (sk) rfl,by show drs.length - (k+1)<drs.length - k;omega⟩
theorem qUg (l:List De) (dn:Int) (dnm dpl:List UInt8) (drs:List Rf) (dcs:List Cs) (g:Int) (hd:DcV ⟨3,dn,dnm,dpl,drs,dcs⟩) (hl:l.length<=1000) (hok:∀ d∈l,OkD d):Pure cx 56 [des l,(De.mk 3 dn dnm dpl drs dcs).pv,i64 g] (·=.ret [isl (qCM l ⟨3,dn,dnm,dpl,drs,dcs⟩++(qAQ l ⟨3,dn,dnm,dpl,drs,dcs⟩ [] drs++qAo l ⟨3,dn,dnm,dpl,drs,dcs⟩ g dcs))]):=by
 have hm:(l.map De.cells).length=l.length:=List.length_map ..
 have hdr:drs.length<=8:=hd.refs
 have hcs:dcs.length<=12:=hd.few
 have hca:∀ c∈dcs,CaV c:=hd.cases
 have hrn:∀ r∈drs,r.name ≠ []:=hd.ok.ok.refs
 have hbare:(3:Int)=1∨(3:Int)=5->dnm=[]:=hd.ok.ok.bare
 have hname:(3:Int)=2∨(3:Int)=3∨(3:Int)=4->dnm ≠ []:=hd.ok.ok.name
 have hplate:¬ (3:Int)=3->dpl=[]:=hd.ok.ok.plate
 have t1:=qGR l ⟨3,dn,dnm,dpl,drs,dcs⟩
 have t2:=qDB l ⟨3,dn,dnm,dpl,drs,dcs⟩ drs []
 have t3:=qCZ l ⟨3,dn,dnm,dpl,drs,dcs⟩ g dcs hca
 have hnm:=hname (.inr (.inl rfl))
 have hpre:qCM l ⟨3,dn,dnm,dpl,drs,dcs⟩=qA7 l ⟨3,dn,dnm,dpl,drs,dcs⟩++(qB2 l ⟨3,dn,dnm,dpl,drs,dcs⟩++qAd l ⟨3,dn,dnm,dpl,drs,dcs⟩):=rfl
 have hT:=qEZ l (d:=⟨3,dn,dnm,dpl,drs,dcs⟩) hnm hl hok
 have hP:=qLc l ⟨3,dn,dnm,dpl,drs,dcs⟩ hl hok
 refine qAB Tryz.func56 rfl rfl rfl ?_
 apply cut
 case h=>
  intro key
  refine And.intro (fun h=>absurd (show(3:Int)=1 from h) (by decide)) (fun _=>?_)
  refine Or.elim hT (fun hT=>?_) (fun hT=>?_)
  ·obtain⟨hT1,hT2⟩:=hT
   refine hT2.eq rfl ?_
   refine And.intro (fun h=>absurd (show(3:Int)=2 from h) (by decide)) (fun _=>?_)
   refine Or.elim hP (fun hp=>?_) (fun hp=>?_)
   ·obtain⟨hp1,hp2⟩:=hp
    refine And.intro (fun _=>?_) (fun h=>absurd hp1 h)
    refine And.intro (fun _=>?_) (fun h=>absurd rfl h)
    refine qAH (fun c1=>?_) (fun c1=>?_)
    ·have c1:dn<2:=c1
     have hc:qAd l ⟨3,dn,dnm,dpl,drs,dcs⟩=[Iss.mk 6 ((l.map De.cells).length:Nat) dnm]:=by rw [qAd,if_pos (.inl c1),hm]
     refine⟨by show 0+1<=1;omega,[Iss.cells (Iss.mk 6 ((l.map De.cells).length:Nat) dnm)],rfl,?_⟩
     refine⟨by show 1 * 32<=140737488355328;decide,?_⟩
     exact⟨Nat × List Iss,(fun x=>[(0, .p (des l)),(2, .p (i64 g)),(4, .ptr 0 0 0),(7, .sl 1 3 0 x.2.length),(8, .p (i64 (l.map De.cells).length)),(13, .p (i64 x.1))]),(fun x=>⟨2,[(1,isO x.2),(0,dcO ⟨3,dn,dnm,dpl,drs,dcs⟩)]⟩),(fun x=>x.1<=drs.length/\x.2++qAQ l ⟨3,dn,dnm,dpl,drs,dcs⟩ (drs.take x.1) (drs.drop x.1)=qCM l ⟨3,dn,dnm,dpl,drs,dcs⟩++qAQ l ⟨3,dn,dnm,dpl,drs,dcs⟩ [] drs),(fun x=>drs.length - x.1),⟨(0,[Iss.mk 6 ((l.map De.cells).length:Nat) dnm]),⟨Nat.zero_le _,by show [Iss.mk 6 ((l.map De.cells).length:Nat) dnm]++_=_;rw [hpre,hT1,hp2,hc];rfl⟩,qAA [] [(1,3)] [] rfl (sk) (sk) rfl⟩,key.get⟩
    have c1:¬ dn<2:=c1
    refine qAH (fun c2=>?_) (fun c2=>?_)
    ·have c2:4<dn:=c2
     have hc:qAd l ⟨3,dn,dnm,dpl,drs,dcs⟩=[Iss.mk 6 ((l.map De.cells).length:Nat) dnm]:=by rw [qAd,if_pos (.inr c2),hm]
     refine⟨by show 0+1<=1;omega,[Iss.cells (Iss.mk 6 ((l.map De.cells).length:Nat) dnm)],rfl,?_⟩
     refine⟨by show 1 * 32<=140737488355328;decide,?_⟩
     exact⟨Nat × List Iss,(fun x=>[(0, .p (des l)),(2, .p (i64 g)),(4, .ptr 0 0 0),(7, .sl 1 3 0 x.2.length),(8, .p (i64 (l.map De.cells).length)),(13, .p (i64 x.1))]),(fun x=>⟨2,[(1,isO x.2),(0,dcO ⟨3,dn,dnm,dpl,drs,dcs⟩)]⟩),(fun x=>x.1<=drs.length/\x.2++qAQ l ⟨3,dn,dnm,dpl,drs,dcs⟩ (drs.take x.1) (drs.drop x.1)=qCM l ⟨3,dn,dnm,dpl,drs,dcs⟩++qAQ l ⟨3,dn,dnm,dpl,drs,dcs⟩ [] drs),(fun x=>drs.length - x.1),⟨(0,[Iss.mk 6 ((l.map De.cells).length:Nat) dnm]),⟨Nat.zero_le _,by show [Iss.mk 6 ((l.map De.cells).length:Nat) dnm]++_=_;rw [hpre,hT1,hp2,hc];rfl⟩,qAA [] [(1,3)] [] rfl (sk) (sk) rfl⟩,key.get⟩
    ·have c2:¬ 4<dn:=c2
     have hc:qAd l ⟨3,dn,dnm,dpl,drs,dcs⟩=[]:=by rw [qAd,if_neg (show ¬ (dn<2∨4<dn) by omega)]
     exact⟨Nat × List Iss,(fun x=>[(0, .p (des l)),(2, .p (i64 g)),(4, .ptr 0 0 0),(7, .sl 1 3 0 x.2.length),(8, .p (i64 (l.map De.cells).length)),(13, .p (i64 x.1))]),(fun x=>⟨2,[(1,isO x.2),(0,dcO ⟨3,dn,dnm,dpl,drs,dcs⟩)]⟩),(fun x=>x.1<=drs.length/\x.2++qAQ l ⟨3,dn,dnm,dpl,drs,dcs⟩ (drs.take x.1) (drs.drop x.1)=qCM l ⟨3,dn,dnm,dpl,drs,dcs⟩++qAQ l ⟨3,dn,dnm,dpl,drs,dcs⟩ [] drs),(fun x=>drs.length - x.1),⟨(0,[]),⟨Nat.zero_le _,by show []++_=_;rw [hpre,hT1,hp2,hc];rfl⟩,qAA [] [] [(1,3)] rfl (sk) (sk) rfl⟩,key.get⟩
   obtain⟨hp1,hp⟩:=hp
   refine And.intro (fun h=>absurd h hp1) (fun _=>?_)
   refine Or.elim hp (fun hp=>?_) (fun hp=>?_)
   ·obtain⟨hp2,hp3⟩:=hp
    refine hp3.eq rfl ?_
    refine⟨by show 0+1<=1;omega,[Iss.cells (Iss.mk 3 ((l.map De.cells).length:Nat) dpl)],rfl,?_⟩
    refine⟨by show 1 * 32<=140737488355328;decide,?_⟩
    refine And.intro (fun _=>?_) (fun h=>absurd rfl h)
    refine qAH (fun c1=>?_) (fun c1=>?_)
    ·have c1:dn<2:=c1
     have hc:qAd l ⟨3,dn,dnm,dpl,drs,dcs⟩=[Iss.mk 6 ((l.map De.cells).length:Nat) dnm]:=by rw [qAd,if_pos (.inl c1),hm]
     refine⟨by show 0+1<=1;omega,[Iss.cells (Iss.mk 6 ((l.map De.cells).length:Nat) dnm)],rfl,?_⟩
     refine⟨by show 0+1<=1;decide,[Iss.cells (Iss.mk 3 ((l.map De.cells).length:Nat) dpl)],rfl,by show(1+1) * 32<=140737488355328;decide,[Iss.cells (Iss.mk 3 ((l.map De.cells).length:Nat) dpl),Iss.cells (Iss.mk 6 ((l.map De.cells).length:Nat) dnm)],rfl,?_⟩
     exact⟨Nat × List Iss,(fun x=>[(0, .p (des l)),(2, .p (i64 g)),(4, .ptr 0 0 0),(7, .sl 1 3 0 x.2.length),(8, .p (i64 (l.map De.cells).length)),(13, .p (i64 x.1))]),(fun x=>⟨2,[(1,isO x.2),(0,dcO ⟨3,dn,dnm,dpl,drs,dcs⟩)]⟩),(fun x=>x.1<=drs.length/\x.2++qAQ l ⟨3,dn,dnm,dpl,drs,dcs⟩ (drs.take x.1) (drs.drop x.1)=qCM l ⟨3,dn,dnm,dpl,drs,dcs⟩++qAQ l ⟨3,dn,dnm,dpl,drs,dcs⟩ [] drs),(fun x=>drs.length - x.1),⟨(0,[Iss.mk 3 ((l.map De.cells).length:Nat) dpl,Iss.mk 6 ((l.map De.cells).length:Nat) dnm]),⟨Nat.zero_le _,by show [Iss.mk 3 ((l.map De.cells).length:Nat) dpl,Iss.mk 6 ((l.map De.cells).length:Nat) dnm]++_=_;rw [hpre,hT1,hp2,hc];rfl⟩,qAA [] [(1,6)] [] rfl (sk) (sk) rfl⟩,key.get⟩
    have c1:¬ dn<2:=c1
    refine qAH (fun c2=>?_) (fun c2=>?_)
    ·have c2:4<dn:=c2
     have hc:qAd l ⟨3,dn,dnm,dpl,drs,dcs⟩=[Iss.mk 6 ((l.map De.cells).length:Nat) dnm]:=by rw [qAd,if_pos (.inr c2),hm]
     refine⟨by show 0+1<=1;omega,[Iss.cells (Iss.mk 6 ((l.map De.cells).length:Nat) dnm)],rfl,?_⟩
     refine⟨by show 0+1<=1;decide,[Iss.cells (Iss.mk 3 ((l.map De.cells).length:Nat) dpl)],rfl,by show(1+1) * 32<=140737488355328;decide,[Iss.cells (Iss.mk 3 ((l.map De.cells).length:Nat) dpl),Iss.cells (Iss.mk 6 ((l.map De.cells).length:Nat) dnm)],rfl,?_⟩
     exact⟨Nat × List Iss,(fun x=>[(0, .p (des l)),(2, .p (i64 g)),(4, .ptr 0 0 0),(7, .sl 1 3 0 x.2.length),(8, .p (i64 (l.map De.cells).length)),(13, .p (i64 x.1))]),(fun x=>⟨2,[(1,isO x.2),(0,dcO ⟨3,dn,dnm,dpl,drs,dcs⟩)]⟩),(fun x=>x.1<=drs.length/\x.2++qAQ l ⟨3,dn,dnm,dpl,drs,dcs⟩ (drs.take x.1) (drs.drop x.1)=qCM l ⟨3,dn,dnm,dpl,drs,dcs⟩++qAQ l ⟨3,dn,dnm,dpl,drs,dcs⟩ [] drs),(fun x=>drs.length - x.1),⟨(0,[Iss.mk 3 ((l.map De.cells).length:Nat) dpl,Iss.mk 6 ((l.map De.cells).length:Nat) dnm]),⟨Nat.zero_le _,by show [Iss.mk 3 ((l.map De.cells).length:Nat) dpl,Iss.mk 6 ((l.map De.cells).length:Nat) dnm]++_=_;rw [hpre,hT1,hp2,hc];rfl⟩,qAA [] [(1,6)] [] rfl (sk) (sk) rfl⟩,key.get⟩
    ·have c2:¬ 4<dn:=c2
     have hc:qAd l ⟨3,dn,dnm,dpl,drs,dcs⟩=[]:=by rw [qAd,if_neg (show ¬ (dn<2∨4<dn) by omega)]
     exact⟨Nat × List Iss,(fun x=>[(0, .p (des l)),(2, .p (i64 g)),(4, .ptr 0 0 0),(7, .sl 1 3 0 x.2.length),(8, .p (i64 (l.map De.cells).length)),(13, .p (i64 x.1))]),(fun x=>⟨2,[(1,isO x.2),(0,dcO ⟨3,dn,dnm,dpl,drs,dcs⟩)]⟩),(fun x=>x.1<=drs.length/\x.2++qAQ l ⟨3,dn,dnm,dpl,drs,dcs⟩ (drs.take x.1) (drs.drop x.1)=qCM l ⟨3,dn,dnm,dpl,drs,dcs⟩++qAQ l ⟨3,dn,dnm,dpl,drs,dcs⟩ [] drs),(fun x=>drs.length - x.1),⟨(0,[Iss.mk 3 ((l.map De.cells).length:Nat) dpl]),⟨Nat.zero_le _,by show [Iss.mk 3 ((l.map De.cells).length:Nat) dpl]++_=_;rw [hpre,hT1,hp2,hc];rfl⟩,qAA [] [(1,4)] [] rfl (sk) (sk) rfl⟩,key.get⟩
   obtain⟨y1,y2,y3,y4,y5,hp⟩:=hp
   refine Or.elim hp (fun hp=>?_) (fun hp=>?_)
   ·obtain⟨hp2,hp3,hp4⟩:=hp
    refine hp3.eq rfl ?_
    refine And.intro (fun _=>?_) (fun h=>absurd hp4 h)
    refine And.intro (fun _=>?_) (fun h=>absurd rfl h)
    refine qAH (fun c1=>?_) (fun c1=>?_)
    ·have c1:dn<2:=c1
     have hc:qAd l ⟨3,dn,dnm,dpl,drs,dcs⟩=[Iss.mk 6 ((l.map De.cells).length:Nat) dnm]:=by rw [qAd,if_pos (.inl c1),hm]
     refine⟨by show 0+1<=1;omega,[Iss.cells (Iss.mk 6 ((l.map De.cells).length:Nat) dnm)],rfl,?_⟩
     refine⟨by show 1 * 32<=140737488355328;decide,?_⟩
     exact⟨Nat × List Iss,(fun x=>[(0, .p (des l)),(2, .p (i64 g)),(4, .ptr 0 0 0),(7, .sl 1 3 0 x.2.length),(8, .p (i64 (l.map De.cells).length)),(13, .p (i64 x.1))]),(fun x=>⟨2,[(1,isO x.2),(0,dcO ⟨3,dn,dnm,dpl,drs,dcs⟩)]⟩),(fun x=>x.1<=drs.length/\x.2++qAQ l ⟨3,dn,dnm,dpl,drs,dcs⟩ (drs.take x.1) (drs.drop x.1)=qCM l ⟨3,dn,dnm,dpl,drs,dcs⟩++qAQ l ⟨3,dn,dnm,dpl,drs,dcs⟩ [] drs),(fun x=>drs.length - x.1),⟨(0,[Iss.mk 6 ((l.map De.cells).length:Nat) dnm]),⟨Nat.zero_le _,by show [Iss.mk 6 ((l.map De.cells).length:Nat) dnm]++_=_;rw [hpre,hT1,hp2,hc];rfl⟩,qAA [] [(1,4)] [] rfl (sk) (sk) rfl⟩,key.get⟩
    have c1:¬ dn<2:=c1
    refine qAH (fun c2=>?_) (fun c2=>?_)
    ·have c2:4<dn:=c2
     have hc:qAd l ⟨3,dn,dnm,dpl,drs,dcs⟩=[Iss.mk 6 ((l.map De.cells).length:Nat) dnm]:=by rw [qAd,if_pos (.inr c2),hm]
     refine⟨by show 0+1<=1;omega,[Iss.cells (Iss.mk 6 ((l.map De.cells).length:Nat) dnm)],rfl,?_⟩
     refine⟨by show 1 * 32<=140737488355328;decide,?_⟩
     exact⟨Nat × List Iss,(fun x=>[(0, .p (des l)),(2, .p (i64 g)),(4, .ptr 0 0 0),(7, .sl 1 3 0 x.2.length),(8, .p (i64 (l.map De.cells).length)),(13, .p (i64 x.1))]),(fun x=>⟨2,[(1,isO x.2),(0,dcO ⟨3,dn,dnm,dpl,drs,dcs⟩)]⟩),(fun x=>x.1<=drs.length/\x.2++qAQ l ⟨3,dn,dnm,dpl,drs,dcs⟩ (drs.take x.1) (drs.drop x.1)=qCM l ⟨3,dn,dnm,dpl,drs,dcs⟩++qAQ l ⟨3,dn,dnm,dpl,drs,dcs⟩ [] drs),(fun x=>drs.length - x.1),⟨(0,[Iss.mk 6 ((l.map De.cells).length:Nat) dnm]),⟨Nat.zero_le _,by show [Iss.mk 6 ((l.map De.cells).length:Nat) dnm]++_=_;rw [hpre,hT1,hp2,hc];rfl⟩,qAA [] [(1,4)] [] rfl (sk) (sk) rfl⟩,key.get⟩
    ·have c2:¬ 4<dn:=c2
     have hc:qAd l ⟨3,dn,dnm,dpl,drs,dcs⟩=[]:=by rw [qAd,if_neg (show ¬ (dn<2∨4<dn) by omega)]
     exact⟨Nat × List Iss,(fun x=>[(0, .p (des l)),(2, .p (i64 g)),(4, .ptr 0 0 0),(7, .sl 1 3 0 x.2.length),(8, .p (i64 (l.map De.cells).length)),(13, .p (i64 x.1))]),(fun x=>⟨2,[(1,isO x.2),(0,dcO ⟨3,dn,dnm,dpl,drs,dcs⟩)]⟩),(fun x=>x.1<=drs.length/\x.2++qAQ l ⟨3,dn,dnm,dpl,drs,dcs⟩ (drs.take x.1) (drs.drop x.1)=qCM l ⟨3,dn,dnm,dpl,drs,dcs⟩++qAQ l ⟨3,dn,dnm,dpl,drs,dcs⟩ [] drs),(fun x=>drs.length - x.1),⟨(0,[]),⟨Nat.zero_le _,by show []++_=_;rw [hpre,hT1,hp2,hc];rfl⟩,qAA [] [] [(1,3)] rfl (sk) (sk) rfl⟩,key.get⟩
   ·obtain⟨hp2,hp3,hp4⟩:=hp
    refine hp3.eq rfl ?_
    refine And.intro (fun h=>absurd h hp4) (fun _=>?_)
    refine⟨by show 0+1<=1;omega,[Iss.cells (Iss.mk 4 ((l.map De.cells).length:Nat) dpl)],rfl,?_⟩
    refine⟨by show 1 * 32<=140737488355328;decide,?_⟩
    refine And.intro (fun _=>?_) (fun h=>absurd rfl h)
    refine qAH (fun c1=>?_) (fun c1=>?_)
    ·have c1:dn<2:=c1
     have hc:qAd l ⟨3,dn,dnm,dpl,drs,dcs⟩=[Iss.mk 6 ((l.map De.cells).length:Nat) dnm]:=by rw [qAd,if_pos (.inl c1),hm]
     refine⟨by show 0+1<=1;omega,[Iss.cells (Iss.mk 6 ((l.map De.cells).length:Nat) dnm)],rfl,?_⟩
     refine⟨by show 0+1<=1;decide,[Iss.cells (Iss.mk 4 ((l.map De.cells).length:Nat) dpl)],rfl,by show(1+1) * 32<=140737488355328;decide,[Iss.cells (Iss.mk 4 ((l.map De.cells).length:Nat) dpl),Iss.cells (Iss.mk 6 ((l.map De.cells).length:Nat) dnm)],rfl,?_⟩
     exact⟨Nat × List Iss,(fun x=>[(0, .p (des l)),(2, .p (i64 g)),(4, .ptr 0 0 0),(7, .sl 1 3 0 x.2.length),(8, .p (i64 (l.map De.cells).length)),(13, .p (i64 x.1))]),(fun x=>⟨2,[(1,isO x.2),(0,dcO ⟨3,dn,dnm,dpl,drs,dcs⟩)]⟩),(fun x=>x.1<=drs.length/\x.2++qAQ l ⟨3,dn,dnm,dpl,drs,dcs⟩ (drs.take x.1) (drs.drop x.1)=qCM l ⟨3,dn,dnm,dpl,drs,dcs⟩++qAQ l ⟨3,dn,dnm,dpl,drs,dcs⟩ [] drs),(fun x=>drs.length - x.1),⟨(0,[Iss.mk 4 ((l.map De.cells).length:Nat) dpl,Iss.mk 6 ((l.map De.cells).length:Nat) dnm]),⟨Nat.zero_le _,by show [Iss.mk 4 ((l.map De.cells).length:Nat) dpl,Iss.mk 6 ((l.map De.cells).length:Nat) dnm]++_=_;rw [hpre,hT1,hp2,hc];rfl⟩,qAA [] [(1,6)] [] rfl (sk) (sk) rfl⟩,key.get⟩
    have c1:¬ dn<2:=c1
    refine qAH (fun c2=>?_) (fun c2=>?_)
    ·have c2:4<dn:=c2
     have hc:qAd l ⟨3,dn,dnm,dpl,drs,dcs⟩=[Iss.mk 6 ((l.map De.cells).length:Nat) dnm]:=by rw [qAd,if_pos (.inr c2),hm]
     refine⟨by show 0+1<=1;omega,[Iss.cells (Iss.mk 6 ((l.map De.cells).length:Nat) dnm)],rfl,?_⟩
     refine⟨by show 0+1<=1;decide,[Iss.cells (Iss.mk 4 ((l.map De.cells).length:Nat) dpl)],rfl,by show(1+1) * 32<=140737488355328;decide,[Iss.cells (Iss.mk 4 ((l.map De.cells).length:Nat) dpl),Iss.cells (Iss.mk 6 ((l.map De.cells).length:Nat) dnm)],rfl,?_⟩
     exact⟨Nat × List Iss,(fun x=>[(0, .p (des l)),(2, .p (i64 g)),(4, .ptr 0 0 0),(7, .sl 1 3 0 x.2.length),(8, .p (i64 (l.map De.cells).length)),(13, .p (i64 x.1))]),(fun x=>⟨2,[(1,isO x.2),(0,dcO ⟨3,dn,dnm,dpl,drs,dcs⟩)]⟩),(fun x=>x.1<=drs.length/\x.2++qAQ l ⟨3,dn,dnm,dpl,drs,dcs⟩ (drs.take x.1) (drs.drop x.1)=qCM l ⟨3,dn,dnm,dpl,drs,dcs⟩++qAQ l ⟨3,dn,dnm,dpl,drs,dcs⟩ [] drs),(fun x=>drs.length - x.1),⟨(0,[Iss.mk 4 ((l.map De.cells).length:Nat) dpl,Iss.mk 6 ((l.map De.cells).length:Nat) dnm]),⟨Nat.zero_le _,by show [Iss.mk 4 ((l.map De.cells).length:Nat) dpl,Iss.mk 6 ((l.map De.cells).length:Nat) dnm]++_=_;rw [hpre,hT1,hp2,hc];rfl⟩,qAA [] [(1,6)] [] rfl (sk) (sk) rfl⟩,key.get⟩
    ·have c2:¬ 4<dn:=c2
     have hc:qAd l ⟨3,dn,dnm,dpl,drs,dcs⟩=[]:=by rw [qAd,if_neg (show ¬ (dn<2∨4<dn) by omega)]
     exact⟨Nat × List Iss,(fun x=>[(0, .p (des l)),(2, .p (i64 g)),(4, .ptr 0 0 0),(7, .sl 1 3 0 x.2.length),(8, .p (i64 (l.map De.cells).length)),(13, .p (i64 x.1))]),(fun x=>⟨2,[(1,isO x.2),(0,dcO ⟨3,dn,dnm,dpl,drs,dcs⟩)]⟩),(fun x=>x.1<=drs.length/\x.2++qAQ l ⟨3,dn,dnm,dpl,drs,dcs⟩ (drs.take x.1) (drs.drop x.1)=qCM l ⟨3,dn,dnm,dpl,drs,dcs⟩++qAQ l ⟨3,dn,dnm,dpl,drs,dcs⟩ [] drs),(fun x=>drs.length - x.1),⟨(0,[Iss.mk 4 ((l.map De.cells).length:Nat) dpl]),⟨Nat.zero_le _,by show [Iss.mk 4 ((l.map De.cells).length:Nat) dpl]++_=_;rw [hpre,hT1,hp2,hc];rfl⟩,qAA [] [(1,4)] [] rfl (sk) (sk) rfl⟩,key.get⟩
  ·obtain⟨z1,z2,z3,z4,z5,hT1,hT2⟩:=hT
   refine hT2.eq rfl ?_
   refine And.intro (fun h=>absurd h hnm) (fun _=>?_)
   refine⟨by show 0+1<=1;omega,[Iss.cells (Iss.mk 2 ((l.map De.cells).length:Nat) dnm)],rfl,?_⟩
   refine⟨by show 1 * 32<=140737488355328;decide,?_⟩
   refine And.intro (fun h=>absurd (show(3:Int)=2 from h) (by decide)) (fun _=>?_)
   refine Or.elim hP (fun hp=>?_) (fun hp=>?_)
   ·obtain⟨hp1,hp2⟩:=hp
    refine And.intro (fun _=>?_) (fun h=>absurd hp1 h)
    refine And.intro (fun _=>?_) (fun h=>absurd rfl h)
    refine qAH (fun c1=>?_) (fun c1=>?_)
    ·have c1:dn<2:=c1
     have hc:qAd l ⟨3,dn,dnm,dpl,drs,dcs⟩=[Iss.mk 6 ((l.map De.cells).length:Nat) dnm]:=by rw [qAd,if_pos (.inl c1),hm]
     refine⟨by show 0+1<=1;omega,[Iss.cells (Iss.mk 6 ((l.map De.cells).length:Nat) dnm)],rfl,?_⟩
     refine⟨by show 0+1<=1;decide,[Iss.cells (Iss.mk 2 ((l.map De.cells).length:Nat) dnm)],rfl,by show(1+1) * 32<=140737488355328;decide,[Iss.cells (Iss.mk 2 ((l.map De.cells).length:Nat) dnm),Iss.cells (Iss.mk 6 ((l.map De.cells).length:Nat) dnm)],rfl,?_⟩
     exact⟨Nat × List Iss,(fun x=>[(0, .p (des l)),(2, .p (i64 g)),(4, .ptr 0 0 0),(7, .sl 1 3 0 x.2.length),(8, .p (i64 (l.map De.cells).length)),(13, .p (i64 x.1))]),(fun x=>⟨2,[(1,isO x.2),(0,dcO ⟨3,dn,dnm,dpl,drs,dcs⟩)]⟩),(fun x=>x.1<=drs.length/\x.2++qAQ l ⟨3,dn,dnm,dpl,drs,dcs⟩ (drs.take x.1) (drs.drop x.1)=qCM l ⟨3,dn,dnm,dpl,drs,dcs⟩++qAQ l ⟨3,dn,dnm,dpl,drs,dcs⟩ [] drs),(fun x=>drs.length - x.1),⟨(0,[Iss.mk 2 ((l.map De.cells).length:Nat) dnm,Iss.mk 6 ((l.map De.cells).length:Nat) dnm]),⟨Nat.zero_le _,by show [Iss.mk 2 ((l.map De.cells).length:Nat) dnm,Iss.mk 6 ((l.map De.cells).length:Nat) dnm]++_=_;rw [hpre,hT1,hp2,hc];rfl⟩,qAA [] [(1,5)] [] rfl (sk) (sk) rfl⟩,key.get⟩
    have c1:¬ dn<2:=c1
    refine qAH (fun c2=>?_) (fun c2=>?_)
    ·have c2:4<dn:=c2
     have hc:qAd l ⟨3,dn,dnm,dpl,drs,dcs⟩=[Iss.mk 6 ((l.map De.cells).length:Nat) dnm]:=by rw [qAd,if_pos (.inr c2),hm]
     refine⟨by show 0+1<=1;omega,[Iss.cells (Iss.mk 6 ((l.map De.cells).length:Nat) dnm)],rfl,?_⟩
     refine⟨by show 0+1<=1;decide,[Iss.cells (Iss.mk 2 ((l.map De.cells).length:Nat) dnm)],rfl,by show(1+1) * 32<=140737488355328;decide,[Iss.cells (Iss.mk 2 ((l.map De.cells).length:Nat) dnm),Iss.cells (Iss.mk 6 ((l.map De.cells).length:Nat) dnm)],rfl,?_⟩
     exact⟨Nat × List Iss,(fun x=>[(0, .p (des l)),(2, .p (i64 g)),(4, .ptr 0 0 0),(7, .sl 1 3 0 x.2.length),(8, .p (i64 (l.map De.cells).length)),(13, .p (i64 x.1))]),(fun x=>⟨2,[(1,isO x.2),(0,dcO ⟨3,dn,dnm,dpl,drs,dcs⟩)]⟩),(fun x=>x.1<=drs.length/\x.2++qAQ l ⟨3,dn,dnm,dpl,drs,dcs⟩ (drs.take x.1) (drs.drop x.1)=qCM l ⟨3,dn,dnm,dpl,drs,dcs⟩++qAQ l ⟨3,dn,dnm,dpl,drs,dcs⟩ [] drs),(fun x=>drs.length - x.1),⟨(0,[Iss.mk 2 ((l.map De.cells).length:Nat) dnm,Iss.mk 6 ((l.map De.cells).length:Nat) dnm]),⟨Nat.zero_le _,by show [Iss.mk 2 ((l.map De.cells).length:Nat) dnm,Iss.mk 6 ((l.map De.cells).length:Nat) dnm]++_=_;rw [hpre,hT1,hp2,hc];rfl⟩,qAA [] [(1,5)] [] rfl (sk) (sk) rfl⟩,key.get⟩
    ·have c2:¬ 4<dn:=c2
     have hc:qAd l ⟨3,dn,dnm,dpl,drs,dcs⟩=[]:=by rw [qAd,if_neg (show ¬ (dn<2∨4<dn) by omega)]
     exact⟨Nat × List Iss,(fun x=>[(0, .p (des l)),(2, .p (i64 g)),(4, .ptr 0 0 0),(7, .sl 1 3 0 x.2.length),(8, .p (i64 (l.map De.cells).length)),(13, .p (i64 x.1))]),(fun x=>⟨2,[(1,isO x.2),(0,dcO ⟨3,dn,dnm,dpl,drs,dcs⟩)]⟩),(fun x=>x.1<=drs.length/\x.2++qAQ l ⟨3,dn,dnm,dpl,drs,dcs⟩ (drs.take x.1) (drs.drop x.1)=qCM l ⟨3,dn,dnm,dpl,drs,dcs⟩++qAQ l ⟨3,dn,dnm,dpl,drs,dcs⟩ [] drs),(fun x=>drs.length - x.1),⟨(0,[Iss.mk 2 ((l.map De.cells).length:Nat) dnm]),⟨Nat.zero_le _,by show [Iss.mk 2 ((l.map De.cells).length:Nat) dnm]++_=_;rw [hpre,hT1,hp2,hc];rfl⟩,qAA [] [(1,3)] [] rfl (sk) (sk) rfl⟩,key.get⟩
   obtain⟨hp1,hp⟩:=hp
   refine And.intro (fun h=>absurd h hp1) (fun _=>?_)
   refine Or.elim hp (fun hp=>?_) (fun hp=>?_)
   ·obtain⟨hp2,hp3⟩:=hp
    refine hp3.eq rfl ?_
    refine⟨by show 0+1<=1;omega,[Iss.cells (Iss.mk 3 ((l.map De.cells).length:Nat) dpl)],rfl,?_⟩
    refine⟨by show 0+1<=1;decide,[Iss.cells (Iss.mk 2 ((l.map De.cells).length:Nat) dnm)],rfl,by show(1+1) * 32<=140737488355328;decide,[Iss.cells (Iss.mk 2 ((l.map De.cells).length:Nat) dnm),Iss.cells (Iss.mk 3 ((l.map De.cells).length:Nat) dpl)],rfl,?_⟩
    refine And.intro (fun _=>?_) (fun h=>absurd rfl h)
    refine qAH (fun c1=>?_) (fun c1=>?_)
    ·have c1:dn<2:=c1
     have hc:qAd l ⟨3,dn,dnm,dpl,drs,dcs⟩=[Iss.mk 6 ((l.map De.cells).length:Nat) dnm]:=by rw [qAd,if_pos (.inl c1),hm]
     refine⟨by show 0+1<=1;omega,[Iss.cells (Iss.mk 6 ((l.map De.cells).length:Nat) dnm)],rfl,?_⟩
     refine⟨by show 0+2<=2;decide,[Iss.cells (Iss.mk 2 ((l.map De.cells).length:Nat) dnm),Iss.cells (Iss.mk 3 ((l.map De.cells).length:Nat) dpl)],rfl,by show(2+1) * 32<=140737488355328;decide,[Iss.cells (Iss.mk 2 ((l.map De.cells).length:Nat) dnm),Iss.cells (Iss.mk 3 ((l.map De.cells).length:Nat) dpl),Iss.cells (Iss.mk 6 ((l.map De.cells).length:Nat) dnm)],rfl,?_⟩
     exact⟨Nat × List Iss,(fun x=>[(0, .p (des l)),(2, .p (i64 g)),(4, .ptr 0 0 0),(7, .sl 1 3 0 x.2.length),(8, .p (i64 (l.map De.cells).length)),(13, .p (i64 x.1))]),(fun x=>⟨2,[(1,isO x.2),(0,dcO ⟨3,dn,dnm,dpl,drs,dcs⟩)]⟩),(fun x=>x.1<=drs.length/\x.2++qAQ l ⟨3,dn,dnm,dpl,drs,dcs⟩ (drs.take x.1) (drs.drop x.1)=qCM l ⟨3,dn,dnm,dpl,drs,dcs⟩++qAQ l ⟨3,dn,dnm,dpl,drs,dcs⟩ [] drs),(fun x=>drs.length - x.1),⟨(0,[Iss.mk 2 ((l.map De.cells).length:Nat) dnm,Iss.mk 3 ((l.map De.cells).length:Nat) dpl,Iss.mk 6 ((l.map De.cells).length:Nat) dnm]),⟨Nat.zero_le _,by show [Iss.mk 2 ((l.map De.cells).length:Nat) dnm,Iss.mk 3 ((l.map De.cells).length:Nat) dpl,Iss.mk 6 ((l.map De.cells).length:Nat) dnm]++_=_;rw [hpre,hT1,hp2,hc];rfl⟩,qAA [] [(1,8)] [] rfl (sk) (sk) rfl⟩,key.get⟩
    have c1:¬ dn<2:=c1
    refine qAH (fun c2=>?_) (fun c2=>?_)
    ·have c2:4<dn:=c2
     have hc:qAd l ⟨3,dn,dnm,dpl,drs,dcs⟩=[Iss.mk 6 ((l.map De.cells).length:Nat) dnm]:=by rw [qAd,if_pos (.inr c2),hm]
     refine⟨by show 0+1<=1;omega,[Iss.cells (Iss.mk 6 ((l.map De.cells).length:Nat) dnm)],rfl,?_⟩
     refine⟨by show 0+2<=2;decide,[Iss.cells (Iss.mk 2 ((l.map De.cells).length:Nat) dnm),Iss.cells (Iss.mk 3 ((l.map De.cells).length:Nat) dpl)],rfl,by show(2+1) * 32<=140737488355328;decide,[Iss.cells (Iss.mk 2 ((l.map De.cells).length:Nat) dnm),Iss.cells (Iss.mk 3 ((l.map De.cells).length:Nat) dpl),Iss.cells (Iss.mk 6 ((l.map De.cells).length:Nat) dnm)],rfl,?_⟩
     exact⟨Nat × List Iss,(fun x=>[(0, .p (des l)),(2, .p (i64 g)),(4, .ptr 0 0 0),(7, .sl 1 3 0 x.2.length),(8, .p (i64 (l.map De.cells).length)),(13, .p (i64 x.1))]),(fun x=>⟨2,[(1,isO x.2),(0,dcO ⟨3,dn,dnm,dpl,drs,dcs⟩)]⟩),(fun x=>x.1<=drs.length/\x.2++qAQ l ⟨3,dn,dnm,dpl,drs,dcs⟩ (drs.take x.1) (drs.drop x.1)=qCM l ⟨3,dn,dnm,dpl,drs,dcs⟩++qAQ l ⟨3,dn,dnm,dpl,drs,dcs⟩ [] drs),(fun x=>drs.length - x.1),⟨(0,[Iss.mk 2 ((l.map De.cells).length:Nat) dnm,Iss.mk 3 ((l.map De.cells).length:Nat) dpl,Iss.mk 6 ((l.map De.cells).length:Nat) dnm]),⟨Nat.zero_le _,by show [Iss.mk 2 ((l.map De.cells).length:Nat) dnm,Iss.mk 3 ((l.map De.cells).length:Nat) dpl,Iss.mk 6 ((l.map De.cells).length:Nat) dnm]++_=_;rw [hpre,hT1,hp2,hc];rfl⟩,qAA [] [(1,8)] [] rfl (sk) (sk) rfl⟩,key.get⟩
    ·have c2:¬ 4<dn:=c2
     have hc:qAd l ⟨3,dn,dnm,dpl,drs,dcs⟩=[]:=by rw [qAd,if_neg (show ¬ (dn<2∨4<dn) by omega)]
     exact⟨Nat × List Iss,(fun x=>[(0, .p (des l)),(2, .p (i64 g)),(4, .ptr 0 0 0),(7, .sl 1 3 0 x.2.length),(8, .p (i64 (l.map De.cells).length)),(13, .p (i64 x.1))]),(fun x=>⟨2,[(1,isO x.2),(0,dcO ⟨3,dn,dnm,dpl,drs,dcs⟩)]⟩),(fun x=>x.1<=drs.length/\x.2++qAQ l ⟨3,dn,dnm,dpl,drs,dcs⟩ (drs.take x.1) (drs.drop x.1)=qCM l ⟨3,dn,dnm,dpl,drs,dcs⟩++qAQ l ⟨3,dn,dnm,dpl,drs,dcs⟩ [] drs),(fun x=>drs.length - x.1),⟨(0,[Iss.mk 2 ((l.map De.cells).length:Nat) dnm,Iss.mk 3 ((l.map De.cells).length:Nat) dpl]),⟨Nat.zero_le _,by show [Iss.mk 2 ((l.map De.cells).length:Nat) dnm,Iss.mk 3 ((l.map De.cells).length:Nat) dpl]++_=_;rw [hpre,hT1,hp2,hc];rfl⟩,qAA [] [(1,6)] [] rfl (sk) (sk) rfl⟩,key.get⟩
   obtain⟨y1,y2,y3,y4,y5,hp⟩:=hp
   refine Or.elim hp (fun hp=>?_) (fun hp=>?_)
   ·obtain⟨hp2,hp3,hp4⟩:=hp
    refine hp3.eq rfl ?_
    refine And.intro (fun _=>?_) (fun h=>absurd hp4 h)
    refine And.intro (fun _=>?_) (fun h=>absurd rfl h)
    refine qAH (fun c1=>?_) (fun c1=>?_)
    ·have c1:dn<2:=c1
     have hc:qAd l ⟨3,dn,dnm,dpl,drs,dcs⟩=[Iss.mk 6 ((l.map De.cells).length:Nat) dnm]:=by rw [qAd,if_pos (.inl c1),hm]
     refine⟨by show 0+1<=1;omega,[Iss.cells (Iss.mk 6 ((l.map De.cells).length:Nat) dnm)],rfl,?_⟩
     refine⟨by show 0+1<=1;decide,[Iss.cells (Iss.mk 2 ((l.map De.cells).length:Nat) dnm)],rfl,by show(1+1) * 32<=140737488355328;decide,[Iss.cells (Iss.mk 2 ((l.map De.cells).length:Nat) dnm),Iss.cells (Iss.mk 6 ((l.map De.cells).length:Nat) dnm)],rfl,?_⟩
     exact⟨Nat × List Iss,(fun x=>[(0, .p (des l)),(2, .p (i64 g)),(4, .ptr 0 0 0),(7, .sl 1 3 0 x.2.length),(8, .p (i64 (l.map De.cells).length)),(13, .p (i64 x.1))]),(fun x=>⟨2,[(1,isO x.2),(0,dcO ⟨3,dn,dnm,dpl,drs,dcs⟩)]⟩),(fun x=>x.1<=drs.length/\x.2++qAQ l ⟨3,dn,dnm,dpl,drs,dcs⟩ (drs.take x.1) (drs.drop x.1)=qCM l ⟨3,dn,dnm,dpl,drs,dcs⟩++qAQ l ⟨3,dn,dnm,dpl,drs,dcs⟩ [] drs),(fun x=>drs.length - x.1),⟨(0,[Iss.mk 2 ((l.map De.cells).length:Nat) dnm,Iss.mk 6 ((l.map De.cells).length:Nat) dnm]),⟨Nat.zero_le _,by show [Iss.mk 2 ((l.map De.cells).length:Nat) dnm,Iss.mk 6 ((l.map De.cells).length:Nat) dnm]++_=_;rw [hpre,hT1,hp2,hc];rfl⟩,qAA [] [(1,6)] [] rfl (sk) (sk) rfl⟩,key.get⟩
    have c1:¬ dn<2:=c1
    refine qAH (fun c2=>?_) (fun c2=>?_)
    ·have c2:4<dn:=c2
     have hc:qAd l ⟨3,dn,dnm,dpl,drs,dcs⟩=[Iss.mk 6 ((l.map De.cells).length:Nat) dnm]:=by rw [qAd,if_pos (.inr c2),hm]
     refine⟨by show 0+1<=1;omega,[Iss.cells (Iss.mk 6 ((l.map De.cells).length:Nat) dnm)],rfl,?_⟩
     refine⟨by show 0+1<=1;decide,[Iss.cells (Iss.mk 2 ((l.map De.cells).length:Nat) dnm)],rfl,by show(1+1) * 32<=140737488355328;decide,[Iss.cells (Iss.mk 2 ((l.map De.cells).length:Nat) dnm),Iss.cells (Iss.mk 6 ((l.map De.cells).length:Nat) dnm)],rfl,?_⟩
     exact⟨Nat × List Iss,(fun x=>[(0, .p (des l)),(2, .p (i64 g)),(4, .ptr 0 0 0),(7, .sl 1 3 0 x.2.length),(8, .p (i64 (l.map De.cells).length)),(13, .p (i64 x.1))]),(fun x=>⟨2,[(1,isO x.2),(0,dcO ⟨3,dn,dnm,dpl,drs,dcs⟩)]⟩),(fun x=>x.1<=drs.length/\x.2++qAQ l ⟨3,dn,dnm,dpl,drs,dcs⟩ (drs.take x.1) (drs.drop x.1)=qCM l ⟨3,dn,dnm,dpl,drs,dcs⟩++qAQ l ⟨3,dn,dnm,dpl,drs,dcs⟩ [] drs),(fun x=>drs.length - x.1),⟨(0,[Iss.mk 2 ((l.map De.cells).length:Nat) dnm,Iss.mk 6 ((l.map De.cells).length:Nat) dnm]),⟨Nat.zero_le _,by show [Iss.mk 2 ((l.map De.cells).length:Nat) dnm,Iss.mk 6 ((l.map De.cells).length:Nat) dnm]++_=_;rw [hpre,hT1,hp2,hc];rfl⟩,qAA [] [(1,6)] [] rfl (sk) (sk) rfl⟩,key.get⟩
    ·have c2:¬ 4<dn:=c2
     have hc:qAd l ⟨3,dn,dnm,dpl,drs,dcs⟩=[]:=by rw [qAd,if_neg (show ¬ (dn<2∨4<dn) by omega)]
     exact⟨Nat × List Iss,(fun x=>[(0, .p (des l)),(2, .p (i64 g)),(4, .ptr 0 0 0),(7, .sl 1 3 0 x.2.length),(8, .p (i64 (l.map De.cells).length)),(13, .p (i64 x.1))]),(fun x=>⟨2,[(1,isO x.2),(0,dcO ⟨3,dn,dnm,dpl,drs,dcs⟩)]⟩),(fun x=>x.1<=drs.length/\x.2++qAQ l ⟨3,dn,dnm,dpl,drs,dcs⟩ (drs.take x.1) (drs.drop x.1)=qCM l ⟨3,dn,dnm,dpl,drs,dcs⟩++qAQ l ⟨3,dn,dnm,dpl,drs,dcs⟩ [] drs),(fun x=>drs.length - x.1),⟨(0,[Iss.mk 2 ((l.map De.cells).length:Nat) dnm]),⟨Nat.zero_le _,by show [Iss.mk 2 ((l.map De.cells).length:Nat) dnm]++_=_;rw [hpre,hT1,hp2,hc];rfl⟩,qAA [] [(1,3)] [] rfl (sk) (sk) rfl⟩,key.get⟩
   ·obtain⟨hp2,hp3,hp4⟩:=hp
    refine hp3.eq rfl ?_
    refine And.intro (fun h=>absurd h hp4) (fun _=>?_)
    refine⟨by show 0+1<=1;omega,[Iss.cells (Iss.mk 4 ((l.map De.cells).length:Nat) dpl)],rfl,?_⟩
    refine⟨by show 0+1<=1;decide,[Iss.cells (Iss.mk 2 ((l.map De.cells).length:Nat) dnm)],rfl,by show(1+1) * 32<=140737488355328;decide,[Iss.cells (Iss.mk 2 ((l.map De.cells).length:Nat) dnm),Iss.cells (Iss.mk 4 ((l.map De.cells).length:Nat) dpl)],rfl,?_⟩
    refine And.intro (fun _=>?_) (fun h=>absurd rfl h)
    refine qAH (fun c1=>?_) (fun c1=>?_)
    ·have c1:dn<2:=c1
     have hc:qAd l ⟨3,dn,dnm,dpl,drs,dcs⟩=[Iss.mk 6 ((l.map De.cells).length:Nat) dnm]:=by rw [qAd,if_pos (.inl c1),hm]
     refine⟨by show 0+1<=1;omega,[Iss.cells (Iss.mk 6 ((l.map De.cells).length:Nat) dnm)],rfl,?_⟩
     refine⟨by show 0+2<=2;decide,[Iss.cells (Iss.mk 2 ((l.map De.cells).length:Nat) dnm),Iss.cells (Iss.mk 4 ((l.map De.cells).length:Nat) dpl)],rfl,by show(2+1) * 32<=140737488355328;decide,[Iss.cells (Iss.mk 2 ((l.map De.cells).length:Nat) dnm),Iss.cells (Iss.mk 4 ((l.map De.cells).length:Nat) dpl),Iss.cells (Iss.mk 6 ((l.map De.cells).length:Nat) dnm)],rfl,?_⟩
     exact⟨Nat × List Iss,(fun x=>[(0, .p (des l)),(2, .p (i64 g)),(4, .ptr 0 0 0),(7, .sl 1 3 0 x.2.length),(8, .p (i64 (l.map De.cells).length)),(13, .p (i64 x.1))]),(fun x=>⟨2,[(1,isO x.2),(0,dcO ⟨3,dn,dnm,dpl,drs,dcs⟩)]⟩),(fun x=>x.1<=drs.length/\x.2++qAQ l ⟨3,dn,dnm,dpl,drs,dcs⟩ (drs.take x.1) (drs.drop x.1)=qCM l ⟨3,dn,dnm,dpl,drs,dcs⟩++qAQ l ⟨3,dn,dnm,dpl,drs,dcs⟩ [] drs),(fun x=>drs.length - x.1),⟨(0,[Iss.mk 2 ((l.map De.cells).length:Nat) dnm,Iss.mk 4 ((l.map De.cells).length:Nat) dpl,Iss.mk 6 ((l.map De.cells).length:Nat) dnm]),⟨Nat.zero_le _,by show [Iss.mk 2 ((l.map De.cells).length:Nat) dnm,Iss.mk 4 ((l.map De.cells).length:Nat) dpl,Iss.mk 6 ((l.map De.cells).length:Nat) dnm]++_=_;rw [hpre,hT1,hp2,hc];rfl⟩,qAA [] [(1,8)] [] rfl (sk) (sk) rfl⟩,key.get⟩
    have c1:¬ dn<2:=c1
    refine qAH (fun c2=>?_) (fun c2=>?_)
    ·have c2:4<dn:=c2
     have hc:qAd l ⟨3,dn,dnm,dpl,drs,dcs⟩=[Iss.mk 6 ((l.map De.cells).length:Nat) dnm]:=by rw [qAd,if_pos (.inr c2),hm]
     refine⟨by show 0+1<=1;omega,[Iss.cells (Iss.mk 6 ((l.map De.cells).length:Nat) dnm)],rfl,?_⟩
     refine⟨by show 0+2<=2;decide,[Iss.cells (Iss.mk 2 ((l.map De.cells).length:Nat) dnm),Iss.cells (Iss.mk 4 ((l.map De.cells).length:Nat) dpl)],rfl,by show(2+1) * 32<=140737488355328;decide,[Iss.cells (Iss.mk 2 ((l.map De.cells).length:Nat) dnm),Iss.cells (Iss.mk 4 ((l.map De.cells).length:Nat) dpl),Iss.cells (Iss.mk 6 ((l.map De.cells).length:Nat) dnm)],rfl,?_⟩
     exact⟨Nat × List Iss,(fun x=>[(0, .p (des l)),(2, .p (i64 g)),(4, .ptr 0 0 0),(7, .sl 1 3 0 x.2.length),(8, .p (i64 (l.map De.cells).length)),(13, .p (i64 x.1))]),(fun x=>⟨2,[(1,isO x.2),(0,dcO ⟨3,dn,dnm,dpl,drs,dcs⟩)]⟩),(fun x=>x.1<=drs.length/\x.2++qAQ l ⟨3,dn,dnm,dpl,drs,dcs⟩ (drs.take x.1) (drs.drop x.1)=qCM l ⟨3,dn,dnm,dpl,drs,dcs⟩++qAQ l ⟨3,dn,dnm,dpl,drs,dcs⟩ [] drs),(fun x=>drs.length - x.1),⟨(0,[Iss.mk 2 ((l.map De.cells).length:Nat) dnm,Iss.mk 4 ((l.map De.cells).length:Nat) dpl,Iss.mk 6 ((l.map De.cells).length:Nat) dnm]),⟨Nat.zero_le _,by show [Iss.mk 2 ((l.map De.cells).length:Nat) dnm,Iss.mk 4 ((l.map De.cells).length:Nat) dpl,Iss.mk 6 ((l.map De.cells).length:Nat) dnm]++_=_;rw [hpre,hT1,hp2,hc];rfl⟩,qAA [] [(1,8)] [] rfl (sk) (sk) rfl⟩,key.get⟩
    ·have c2:¬ 4<dn:=c2
     have hc:qAd l ⟨3,dn,dnm,dpl,drs,dcs⟩=[]:=by rw [qAd,if_neg (show ¬ (dn<2∨4<dn) by omega)]
     exact⟨Nat × List Iss,(fun x=>[(0, .p (des l)),(2, .p (i64 g)),(4, .ptr 0 0 0),(7, .sl 1 3 0 x.2.length),(8, .p (i64 (l.map De.cells).length)),(13, .p (i64 x.1))]),(fun x=>⟨2,[(1,isO x.2),(0,dcO ⟨3,dn,dnm,dpl,drs,dcs⟩)]⟩),(fun x=>x.1<=drs.length/\x.2++qAQ l ⟨3,dn,dnm,dpl,drs,dcs⟩ (drs.take x.1) (drs.drop x.1)=qCM l ⟨3,dn,dnm,dpl,drs,dcs⟩++qAQ l ⟨3,dn,dnm,dpl,drs,dcs⟩ [] drs),(fun x=>drs.length - x.1),⟨(0,[Iss.mk 2 ((l.map De.cells).length:Nat) dnm,Iss.mk 4 ((l.map De.cells).length:Nat) dpl]),⟨Nat.zero_le _,by show [Iss.mk 2 ((l.map De.cells).length:Nat) dnm,Iss.mk 4 ((l.map De.cells).length:Nat) dpl]++_=_;rw [hpre,hT1,hp2,hc];rfl⟩,qAA [] [(1,6)] [] rfl (sk) (sk) rfl⟩,key.get⟩
 case k=>
  rintro⟨k,cur⟩ ⟨k1,k2⟩
  simp only [] at k1 k2
  have hcl:cur.length<=400:=by
   have e:=congrArg List.length k2
   rw [List.length_append,List.length_append] at e
   omega
  refine QAD (fun m1=>?_) (fun m1=>?_)
  rotate_left
  ·have m1:¬ (k:Int)<((drs.map Rf.cells).length:Nat):=m1
   rw [List.length_map] at m1
   rw [List.drop_eq_nil_of_le (by omega),qAQ,List.append_nil] at k2
   refine⟨Nat × List Iss,fun x=>[(0, .p (des l)),(2, .p (i64 g)),(4, .ptr 0 0 0),(7, .sl 1 3 0 x.2.length),(8, .p (i64 (l.map De.cells).length)),(17, .p (i64 x.1))],fun x=>⟨2,[(1,isO x.2),(0,dcO ⟨3,dn,dnm,dpl,drs,dcs⟩)]⟩,fun x=>x.1<=dcs.length/\x.2++qAo l ⟨3,dn,dnm,dpl,drs,dcs⟩ g (dcs.drop x.1)=cur++qAo l ⟨3,dn,dnm,dpl,drs,dcs⟩ g dcs,fun x=>dcs.length - x.1,?_,?_⟩
   ·exact⟨(0,cur),⟨Nat.zero_le _,rfl⟩,qAA [] [] [] rfl (sk) (sk) rfl⟩
   rintro⟨j,cu⟩ ⟨j1,j2⟩
   simp only [] at j1 j2
   have htot:(cur++qAo l ⟨3,dn,dnm,dpl,drs,dcs⟩ g dcs).length<=1000:=by rw [List.length_append];omega
   refine QAD (fun n1=>?_) (fun n1=>?_)
   rotate_left
   ·have n1:¬ (j:Int)<((dcs.map Cs.cells).length:Nat):=n1
    rw [List.length_map] at n1
    rw [List.drop_eq_nil_of_le (by omega),show qAo l ⟨3,dn,dnm,dpl,drs,dcs⟩ g []=[] from rfl,List.append_nil] at j2
    exact qAF (isl cu) rfl ⟨_,rfl,by show 0+cu.length<=(cu.map Iss.cells).length;simp,qAD (by simp)⟩ (by rw [j2,k2,List.append_assoc])
   have n1:(j:Int)<((dcs.map Cs.cells).length:Nat):=n1
   rw [List.length_map] at n1
   have hj:j<dcs.length:=by omega
   have hcell:=qHm hj
   have hx:=(hca _ (qAI cs0 hj)).ok
   rw [qBt cs0 hj,qBp,<- List.append_assoc,<- List.append_assoc] at j2
   rw [<- j2,List.length_append,List.length_append] at htot
   generalize dcs.getD j cs0=x at hcell hx j2 htot
   obtain⟨⟨xo,xn,xr,xv,xf,xs,xa⟩,xw⟩:=x
   obtain⟨x1,x2,x3⟩:=hx
   simp only [] at x1 x2 x3 j2 htot
   have hr:=qGP ⟨3,dn,dnm,dpl,drs,dcs⟩ xw g x2 x3
   refine qAG qRa (by kernel_rfl) ?_
   refine⟨_,⟨by omega,(⟨.mk xo xn xr xv xf xs xa,xw⟩:Cs).cells,hcell,rfl⟩,?_⟩
   refine(qG3 l ⟨3,dn,dnm,dpl,drs,dcs⟩ (by show drs.length<=100;omega) hl hok _ (.mk xo xn xr xv xf xs xa) cu (Nat.le_refl _) x1 (by omega)).holds.useT [] [(0,1)] rfl (sk) (sk) fun e0 H0 hq=>?_
   obtain⟨rfl,rfl⟩:=hq
   have hnl:(cu++qBC l ⟨3,dn,dnm,dpl,drs,dcs⟩ (.mk xo xn xr xv xf xs xa)).length<=1000:=by omega
   generalize cu++qBC l ⟨3,dn,dnm,dpl,drs,dcs⟩ (.mk xo xn xr xv xf xs xa)=nxt at j2 hnl ⊢
   refine⟨rfl,_,⟨3,(2,isO nxt)::[(0,dcO ⟨3,dn,dnm,dpl,drs,dcs⟩)]⟩,rfl,rfl,?_⟩
   refine qAG qRZ (by kernel_rfl) ?_
   refine⟨_,⟨by omega,(⟨.mk xo xn xr xv xf xs xa,xw⟩:Cs).cells,hcell,rfl⟩,?_⟩
   by_cases hrow:qI2 ⟨3,dn,dnm,dpl,drs,dcs⟩ xw g=true
   ·rw [hrow] at hr j2
    rw [if_pos rfl,List.append_nil] at j2
    refine hr.eq rfl ?_
    refine⟨_,w6z,?_⟩
    exact⟨(j+1,nxt),⟨by show j+1<=dcs.length;omega,j2⟩,qAA [] [(1,2)] [] rfl (sk) (sk) rfl,by show dcs.length - (j+1)<dcs.length - j;omega⟩
   ·rw [Bool.not_eq_true] at hrow
    rw [hrow] at hr j2
    rw [if_neg (by decide),<- hm] at j2
    refine hr.eq rfl ?_
    refine⟨by show 0+1<=1;omega,[Iss.cells (Iss.mk 9 ((l.map De.cells).length:Nat) [])],rfl,?_⟩
    refine⟨by show 0+(nxt.length)<=((nxt).map Iss.cells).length;simp,(nxt).map Iss.cells,qAD (by simp),by show((nxt.length)+1) * 32<=140737488355328;omega,((nxt)++[Iss.mk 9 ((l.map De.cells).length:Nat) []]).map Iss.cells,by rw [List.map_append];rfl,?_⟩
    refine⟨_,w6z,?_⟩
    exact⟨(j+1,nxt++[Iss.mk 9 ((l.map De.cells).length:Nat) []]),⟨by show j+1<=dcs.length;omega,j2⟩,qAA [] [(1,4)] [] rfl ⟨rfl,rfl,⟨rfl,rfl⟩,congrArg (fun j:Nat=>AV.sl 4 3 0 j) (qAN _ _).symm,rfl,rfl,trivial⟩ (sk) rfl,by show dcs.length - (j+1)<dcs.length - j;omega⟩
  have m1:(k:Int)<((drs.map Rf.cells).length:Nat):=m1
  rw [List.length_map] at m1
  have hk:k<drs.length:=by omega
  have hcell:=qC6 hk
  have hxn:=hrn _ (qAI rf0 hk)
  have hstep:qAQ l ⟨3,dn,dnm,dpl,drs,dcs⟩ (drs.take k) (drs.drop k)=(if drs.getD k rf0∈drs.take k then [⟨2,((l.map De.cells).length:Nat),(drs.getD k rf0).name⟩] else [])++(qBb (qF9 l ⟨3,dn,dnm,dpl,drs,dcs⟩ (drs.getD k rf0)) ((l.map De.cells).length:Nat) (drs.getD k rf0).name++qAQ l ⟨3,dn,dnm,dpl,drs,dcs⟩ (drs.take (k+1)) (drs.drop (k+1))):=by
   rw [qBt rf0 hk,qAQ,hm,qAE rf0 hk]
  generalize drs.getD k rf0=x at hcell hxn hstep
  have hRf:=qIy l ⟨3,dn,dnm,dpl,drs,dcs⟩ x hxn hl hok
  have hnn:=qI8 l ⟨3,dn,dnm,dpl,drs,dcs⟩ x
  generalize qF9 l ⟨3,dn,dnm,dpl,drs,dcs⟩ x=kk at hRf hnn hstep
  refine⟨Nat × Bool,fun y=>[(0, .p (des l)),(2, .p (i64 g)),(4, .ptr 0 0 0),(7, .sl 1 3 0 cur.length),(8, .p (i64 (l.map De.cells).length)),(13, .p (i64 k)),(14, .p (.bool y.2)),(15, .p (i64 y.1))],fun _=>⟨2,[(1,isO cur),(0,dcO ⟨3,dn,dnm,dpl,drs,dcs⟩)]⟩,fun y=>y.1<=k/\y.2=decide (x∈drs.take y.1),fun y=>k - y.1,?_,?_⟩
  ·exact⟨(0,false),⟨Nat.zero_le _,by simp⟩,qAA [] [] [] rfl (sk) (sk) rfl⟩
  rintro⟨j,b⟩ ⟨j1,j2⟩
  simp only [] at j1 j2
  cases b
  ·refine QAD (fun n1=>?_) (fun n1=>?_)
   ·have n1:(j:Int)<(k:Nat):=n1
    have hj:j<drs.length:=by omega
    have hcj:=qC6 hj
    have hnx:(x∈drs.take (j+1)) ↔ (x∈drs.take j∨x=drs.getD j rf0):=by rw [qAE rf0 hj,List.mem_append,List.mem_singleton]
    generalize drs.getD j rf0=y at hcj hnx
    refine qAG qKI (by kernel_rfl) ?_
    refine⟨_,⟨by omega,y.cells,hcj,rfl⟩,?_⟩
    refine⟨_,⟨by omega,x.cells,hcell,rfl⟩,?_⟩
    refine⟨⟨by kernel_rfl,by kernel_rfl⟩,fun e1=>?_,fun e1=>?_⟩
    ·have e1:y=x:=qDk (by first | exact e1 | (injection e1))
     refine⟨_,w6z,?_⟩
     exact⟨(j+1,true),⟨by show j+1<=k;omega,(decide_eq_true (hnx.2 (.inr e1.symm))).symm⟩,qAA [] [] [] rfl (sk) (sk) rfl,by show k - (j+1)<k - j;omega⟩
    ·have e1:¬ y=x:=fun e=>e1 (by rw [e])
     have hno:¬ x∈drs.take j:=of_decide_eq_false j2.symm
     refine⟨_,w6z,?_⟩
     exact⟨(j+1,false),⟨by show j+1<=k;omega,(decide_eq_false (fun h=>(hnx.1 h).elim hno fun e=>e1 e.symm)).symm⟩,qAA [] [] [] rfl (sk) (sk) rfl,by show k - (j+1)<k - j;omega⟩
   ·have n1:¬ (j:Int)<(k:Nat):=n1
    have hjk:j=k:=by omega
    have hno:¬ x∈drs.take k:=by rw [hjk] at j2;exact of_decide_eq_false j2.symm
    rw [if_neg hno] at hstep
    clear hjk n1 j1 j2
    refine qAG qKH (by kernel_rfl) ?_
    refine⟨_,⟨by omega,x.cells,hcell,rfl⟩,?_⟩
    refine hRf.eq rfl ?_
    refine qAH (fun z=>?_) (fun z=>?_)
    ·have z:0<kk:=z
     rw [qBb,if_neg (show ¬ kk=0 by omega)] at hstep
     refine⟨_,⟨by omega,x.cells,hcell,rfl⟩,?_⟩
     refine⟨by show 0+1<=1;omega,[Iss.cells (Iss.mk kk ((l.map De.cells).length:Nat) x.name)],rfl,?_⟩
     refine⟨by show 0+(cur.length)<=((cur).map Iss.cells).length;simp,(cur).map Iss.cells,qAD (by simp),by show((cur.length)+1) * 32<=140737488355328;omega,((cur)++[Iss.mk kk ((l.map De.cells).length:Nat) x.name]).map Iss.cells,by rw [List.map_append];rfl,?_⟩
     refine⟨_,w6z,?_⟩
     exact⟨(k+1,(cur)++[Iss.mk kk ((l.map De.cells).length:Nat) x.name]),⟨by show k+1<=drs.length;omega,by rw [<- k2];rw [hstep,List.append_assoc] <;> rfl⟩,qAA [] [(1,3)] [] rfl ⟨rfl,rfl,⟨rfl,rfl⟩,congrArg (fun j:Nat=>AV.sl 3 3 0 j) (qAN cur _).symm,rfl,rfl,trivial⟩ (sk) rfl,by show drs.length - (k+1)<drs.length - k;omega⟩
    ·have z:¬ 0<kk:=z
     rw [qBb,if_pos (show kk=0 by omega)] at hstep
     refine⟨_,w6z,?_⟩
     exact⟨(k+1,cur),⟨by show k+1<=drs.length;omega,by rw [<- k2];rw [hstep] <;> rfl⟩,qAA [] [(1,1)] [] rfl ⟨rfl,rfl,⟨rfl,rfl⟩,rfl,rfl,rfl,trivial⟩ (sk) rfl,by show drs.length - (k+1)<drs.length - k;omega⟩
  ·refine QAD (fun n1=>?_) (fun n1=>?_)
   ·have n1:(j:Int)<(k:Nat):=n1
    have hj:j<drs.length:=by omega
    have hnx:(x∈drs.take (j+1)) ↔ (x∈drs.take j∨x=drs.getD j rf0):=by rw [qAE rf0 hj,List.mem_append,List.mem_singleton]
    have hyes:x∈drs.take j:=of_decide_eq_true j2.symm
    refine qAG qKI (by kernel_rfl) ?_
    refine⟨_,w6z,?_⟩
    exact⟨(j+1,true),⟨by show j+1<=k;omega,(decide_eq_true (hnx.2 (.inl hyes))).symm⟩,qAA [] [] [] rfl (sk) (sk) rfl,by show k - (j+1)<k - j;omega⟩
   ·have n1:¬ (j:Int)<(k:Nat):=n1
    have hjk:j=k:=by omega
    have hyes:x∈drs.take k:=by rw [hjk] at j2;exact of_decide_eq_true j2.symm
    rw [if_pos hyes] at hstep
    clear hjk n1 j1 j2
    refine⟨_,⟨by omega,x.cells,hcell,rfl⟩,?_⟩
    refine⟨by show 0+1<=1;omega,[Iss.cells (Iss.mk 2 ((l.map De.cells).length:Nat) x.name)],rfl,?_⟩
    refine⟨by show 0+(cur.length)<=((cur).map Iss.cells).length;simp,(cur).map Iss.cells,qAD (by simp),by show((cur.length)+1) * 32<=140737488355328;omega,((cur)++[Iss.mk 2 ((l.map De.cells).length:Nat) x.name]).map Iss.cells,by rw [List.map_append];rfl,?_⟩
    refine qAG qKH (by kernel_rfl) ?_
    refine⟨_,⟨by omega,x.cells,hcell,rfl⟩,?_⟩
    refine hRf.eq rfl ?_
    refine qAH (fun z=>?_) (fun z=>?_)
    ·have z:0<kk:=z
     rw [qBb,if_neg (show ¬ kk=0 by omega)] at hstep
     refine⟨_,⟨by omega,x.cells,hcell,rfl⟩,?_⟩
     refine⟨by show 0+1<=1;omega,[Iss.cells (Iss.mk kk ((l.map De.cells).length:Nat) x.name)],rfl,?_⟩
     refine⟨by show 0+(cur.length+1)<=((cur++[Iss.mk 2 ((l.map De.cells).length:Nat) x.name]).map Iss.cells).length;simp,(cur++[Iss.mk 2 ((l.map De.cells).length:Nat) x.name]).map Iss.cells,qAD (by simp),by show((cur.length+1)+1) * 32<=140737488355328;omega,((cur++[Iss.mk 2 ((l.map De.cells).length:Nat) x.name])++[Iss.mk kk ((l.map De.cells).length:Nat) x.name]).map Iss.cells,by rw [List.map_append];rfl,?_⟩
     refine⟨_,w6z,?_⟩
     exact⟨(k+1,(cur++[Iss.mk 2 ((l.map De.cells).length:Nat) x.name])++[Iss.mk kk ((l.map De.cells).length:Nat) x.name]),⟨by show k+1<=drs.length;omega,by rw [<- k2];rw [hstep,List.append_assoc,List.append_assoc] <;> rfl⟩,qAA [] [(1,5)] [] rfl ⟨rfl,rfl,⟨rfl,rfl⟩,congrArg (fun j:Nat=>AV.sl 5 3 0 j) ((qAN _ _).trans (congrArg (fun z:Nat=>z+1) (qAN cur _))).symm,rfl,rfl,trivial⟩ (sk) rfl,by show drs.length - (k+1)<drs.length - k;omega⟩
    ·have z:¬ 0<kk:=z
     rw [qBb,if_pos (show kk=0 by omega)] at hstep
     refine⟨_,w6z,?_⟩
     exact⟨(k+1,cur++[Iss.mk 2 ((l.map De.cells).length:Nat) x.name]),⟨by show k+1<=drs.length;omega,by rw [<- k2];rw [hstep,List.append_assoc] <;> rfl⟩,qAA [] [(1,3)] [] rfl ⟨rfl,rfl,⟨rfl,rfl⟩,congrArg (fun j:Nat=>AV.sl 3 3 0 j) (qAN cur _).symm,rfl,rfl,trivial⟩ (sk) rfl,by show drs.length - (k+1)<drs.length - k;omega⟩
theorem qUi (l:List De) (dn:Int) (dnm dpl:List UInt8) (drs:List Rf) (dcs:List Cs) (g:Int):Pure cx 56 [des l,(De.mk 1 dn dnm dpl drs dcs).pv,i64 g] (·=.ret [isl (qCW l ⟨1,dn,dnm,dpl,drs,dcs⟩ g)]):=by
 have hm:(l.map De.cells).length=l.length:=List.length_map ..
 obtain⟨R,hR⟩:∃ R,R=qCW l ⟨1,dn,dnm,dpl,drs,dcs⟩ g:=⟨_,rfl⟩
 rw [<- hR]
 rw [qCW,if_pos rfl] at hR
 try simp only [] at hR
 refine qAB Tryz.func56 rfl rfl rfl ?_
 refine And.intro (fun _=>?_) (fun h=>absurd rfl h)
 refine QAD (fun h0=>?_) (fun h0=>?_)
 ·have h0:(0:Int)<((l.map De.cells).length:Nat):=h0
  rw [hm] at h0
  rw [if_pos (.inl (by omega))] at hR
  refine⟨by show 0+1<=1;omega,[Iss.cells (Iss.mk 1 ((l.map De.cells).length:Nat) [])],rfl,?_⟩
  refine⟨by show 1 * 32<=140737488355328;decide,?_⟩
  exact qAF (isl [Iss.mk 1 ((l.map De.cells).length:Nat) []]) rfl ⟨_,rfl,by show 0+1<=1;decide,rfl⟩ (by rw [hR,hm])
 have h0:¬ (0:Int)<((l.map De.cells).length:Nat):=h0
 rw [hm] at h0
 refine QAD (fun h1=>?_) (fun h1=>?_)
 ·have h1:dn<1:=h1
  rw [if_pos (.inr (.inl h1))] at hR
  refine⟨by show 0+1<=1;omega,[Iss.cells (Iss.mk 1 ((l.map De.cells).length:Nat) [])],rfl,?_⟩
  refine⟨by show 1 * 32<=140737488355328;decide,?_⟩
  exact qAF (isl [Iss.mk 1 ((l.map De.cells).length:Nat) []]) rfl ⟨_,rfl,by show 0+1<=1;decide,rfl⟩ (by rw [hR,hm])
 have h1:¬ dn<1:=h1
 refine QAD (fun h2=>?_) (fun h2=>?_)
 ·have h2:60<dn:=h2
  rw [if_pos (.inr (.inr h2))] at hR
  refine⟨by show 0+1<=1;omega,[Iss.cells (Iss.mk 1 ((l.map De.cells).length:Nat) [])],rfl,?_⟩
  refine⟨by show 1 * 32<=140737488355328;decide,?_⟩
  exact qAF (isl [Iss.mk 1 ((l.map De.cells).length:Nat) []]) rfl ⟨_,rfl,by show 0+1<=1;decide,rfl⟩ (by rw [hR,hm])
 ·have h2:¬ 60<dn:=h2
  rw [if_neg (by omega)] at hR
  exact qAF (isl []) rfl (.inr (.inr ⟨3,rfl⟩)) (by rw [hR])
structure DcZ (d:De):Prop where
 two:d.kind=2->d.refs=[]/\d.cases=[]
 four:d.kind=4->d.cases=[]
theorem qTl {d:De} (h:qBi d=true):DcZ d:=by
 simp only [qBi,Bool.and_eq_true] at h
 have h4:=h.2
 unfold qAj at h4
 refine⟨fun k=>?_,fun k=>?_⟩
 ·rw [if_neg (by omega),if_pos k] at h4
  simp only [Bool.and_eq_true,decide_eq_true_eq] at h4
  exact⟨List.eq_nil_of_length_eq_zero h4.1.2,List.eq_nil_of_length_eq_zero h4.2⟩
 ·rw [if_neg (by omega),if_neg (by omega),if_neg (by omega),if_pos k] at h4
  simp only [Bool.and_eq_true,decide_eq_true_eq] at h4
  exact List.eq_nil_of_length_eq_zero h4.2
theorem qU0 {l:List De} {d:De} {g:Int} (hk:¬ d.kind=1) (ho:OkD d) (hz:DcZ d):qCW l d g=qCM l d++(qAQ l d [] d.refs++qAo l d g d.cases):=by
 rw [qCW,qCM,if_neg hk]
 by_cases k2:d.kind=2
 ·rw [if_pos k2,if_pos k2,(hz.two k2).1,(hz.two k2).2,qAQ,qDx]
  show _=_++([]++[])
  rw [List.append_nil,List.append_nil]
 rw [if_neg k2,if_neg k2]
 by_cases k3:d.kind=3
 ·rw [if_pos k3,if_pos k3,List.append_assoc,List.append_assoc]
 rw [if_neg k3,if_neg k3]
 by_cases k4:d.kind=4
 ·rw [if_pos k4,if_pos k4,hz.four k4,List.append_assoc]
  show _=_++(_++(_++[]))
  rw [List.append_nil]
 ·rw [if_neg k4,if_neg k4];rfl
theorem qUd (l:List De) (d:De) (g:Int) (hd:DcV d) (hz:DcZ d) (hl:l.length<=1000) (hok:∀ d∈l,OkD d):Pure cx 56 [des l,d.pv,i64 g] (·=.ret [isl (qCW l d g)]):=by
 obtain⟨dk,dn,dnm,dpl,drs,dcs⟩:=d
 have hkind:=hd.ok.ok.kind
 have he:=fun hk=>qU0 (l:=l) (g:=g) (d:=⟨dk,dn,dnm,dpl,drs,dcs⟩) hk hd.ok.ok hz
 rcases hkind with h | h | h | h | h
 ·have h:dk=1:=h
  subst h
  exact qUi l dn dnm dpl drs dcs g
 ·have h:dk=2:=h
  subst h
  rw [he (show ¬ (2:Int)=1 by decide)]
  exact qUh l dn dnm dpl drs dcs g hd hl hok
 ·have h:dk=3:=h
  subst h
  rw [he (show ¬ (3:Int)=1 by decide)]
  exact qUg l dn dnm dpl drs dcs g hd hl hok
 ·have h:dk=4:=h
  subst h
  rw [he (show ¬ (4:Int)=1 by decide)]
  exact qUf l dn dnm dpl drs dcs g hd hl hok
 ·have h:dk=5:=h
  subst h
  rw [he (show ¬ (5:Int)=1 by decide)]
  exact qUe l dn dnm dpl drs dcs g hd hl hok
abbrev qXC:OT:=(.pure 0 (.pure 1 (.pure 2 (.pure 3 (.pure 4 (.pure 5 (.pure 6 (.pure 7 (.pure 8 .fin)))))))))
def is0:Iss:=⟨0,0,[]⟩
theorem qSY {l:List Iss} {k:Nat} (h:k<l.length):(l.map Iss.cells)[k]?=some (l.getD k is0).cells:=qCw is0 h
theorem qVF {a b:Iss} (h:a.cells=b.cells):a=b:=by
 obtain⟨x,y,z⟩:=a
 obtain⟨x',y',z'⟩:=b
 injection h with h1 h
 injection h with h2 h
 injection h with h3 h
 injection h1 with _ h1
 injection h2 with _ h2
 injection h3 with h3
 subst h1 h2 h3
 rfl
theorem qNA (a b:List Iss) (ha:a.length<=1000000) (hb:b.length<=1000000):Pure cx 11 [isl a,isl b] (·=.ret [.bool (decide (a=b))]):=by
 have hma:(a.map Iss.cells).length=a.length:=List.length_map ..
 have hmb:(b.map Iss.cells).length=b.length:=List.length_map ..
 refine qAB Tryz.func11 rfl rfl rfl ?_
 refine And.intro (fun h1=>?_) (fun h1=>?_)
 rotate_left
 ·have h1:¬ ((a.map Iss.cells).length:Int)=((b.map Iss.cells).length:Nat):=h1
  rw [hma,hmb] at h1
  exact qAF _ rfl rfl (qAO (decide_eq_false fun e=>h1 (by rw [e])).symm)
 have h1:((a.map Iss.cells).length:Int)=((b.map Iss.cells).length:Nat):=h1
 rw [hma,hmb] at h1
 refine⟨Nat,fun k=>[(0, .p (isl a)),(1, .p (isl b)),(5, .p (i64 k))],fun _=>⟨0,[]⟩,fun k=>k<=a.length/\a.take k=b.take k,fun k=>a.length - k,?_,?_⟩
 ·exact⟨0,⟨Nat.zero_le _,by simp⟩,qAA [] [] [] rfl (sk) trivial rfl⟩
 rintro k ⟨k1,k2⟩
 refine QAD (fun m1=>?_) (fun m1=>?_)
 rotate_left
 ·have m1:¬ (k:Int)<((a.map Iss.cells).length:Nat):=m1
  rw [hma] at m1
  rw [qAc (by omega),qAc (by omega)] at k2
  exact qAF _ rfl rfl (qAO (decide_eq_true k2).symm)
 have m1:(k:Int)<((a.map Iss.cells).length:Nat):=m1
 rw [hma] at m1
 have hk:k<a.length:=by omega
 have hkb:k<b.length:=by omega
 have ca:=qSY hk
 have cb':=qSY hkb
 have hs:a.take (k+1)=b.take (k+1) ↔ a.getD k is0=b.getD k is0:=by
  rw [qAE is0 hk,qAE is0 hkb,k2]
  constructor
  ·intro h;have:=List.append_cancel_left h;injection this
  ·intro h;rw [h]
 have hne:¬ a.getD k is0=b.getD k is0->¬ a=b:=fun h e=>h (by rw [e])
 generalize a.getD k is0=x at ca hs hne
 generalize b.getD k is0=y at cb' hs hne
 refine qAG qXC (by kernel_rfl) ?_
 refine⟨_,⟨by omega,x.cells,ca,rfl⟩,?_⟩
 refine⟨_,⟨by omega,y.cells,cb',rfl⟩,?_⟩
 refine⟨⟨by kernel_rfl,by kernel_rfl⟩,fun e1=>?_,fun e1=>?_⟩
 ·have e1:x=y:=qVF (by first | exact e1 | (injection e1))
  refine⟨_,w6z,?_⟩
  exact⟨k+1,⟨by omega,hs.2 e1⟩,qAA [] [] [] rfl (sk) trivial rfl,by show a.length - (k+1)<a.length - k;omega⟩
 ·have e1:¬ x=y:=fun e=>e1 (by rw [e])
  exact qAF _ rfl rfl (qAO (decide_eq_false (hne e1)).symm)
structure WI (W P:Nat):Prop where
 eq:W<=1024->W=P
 big:1024<W->1024<P
 hi:W<=4096
abbrev qWF:OT:=(.pure 0 (.pure 1 (.pure 2 (.pure 3 (.pure 4 (.pure 5 (.eff 6 [] (.pure 7 .fin) .nil)))))))
theorem qUo (ds:List De) (hlen:ds.length<=30) (hok:∀ d∈ds,OkD d) {g:Int} (hno:qBm g [] ds=[]):Pure cx 57 [qCs ds] (·=.ret [.bool (qHZ ds)]):=by
 have hm:(ds.map De.cells).length=ds.length:=List.length_map ..
 refine qAB Tryz.func57 rfl rfl rfl ?_
 refine⟨Nat × Nat,fun x=>[(1, .ptr 0 0 0),(3, .p (i64 (qAP [] (ds.take x.1):Nat))),(4, .p (i64 (qAs (ds.take x.1):Nat))),(5, .p (i64 (x.2:Nat))),(6, .p (i64 x.1))],fun _=>⟨1,[(0,scO ds)]⟩,fun x=>x.1<=ds.length/\qAP [] (ds.take x.1)<=6 * x.1/\WI x.2 (qAZ [] (ds.take x.1)),fun x=>ds.length - x.1,?_,?_⟩
 ·exact⟨(0,1),⟨Nat.zero_le _,Nat.zero_le _,⟨fun _=>rfl,fun h=>absurd h (by decide),by decide⟩⟩,qAA [] [] [] rfl (sk) (sk) rfl⟩
 rintro⟨k,W⟩ ⟨k1,k2,k3⟩
 simp only [] at k1 k2 k3
 have hW4:=k3.hi
 refine QAD (fun m1=>?_) (fun m1=>?_)
 rotate_left
 ·have m1:¬ (k:Int)<((ds.map De.cells).length:Nat):=m1
  rw [hm] at m1
  obtain⟨B,hB⟩:∃ B,B=qHZ ds:=⟨_,rfl⟩
  rw [<- hB]
  have et:ds.take k=ds:=qAc (by omega)
  have e1:=k3.eq
  have e2:=k3.big
  rw [et] at e1 e2
  rw [qHZ] at hB
  refine QAD (fun b0=>?_) (fun b0=>?_)
  ·have b0:((qAP [] (ds.take k):Nat):Int)<1:=b0
   rw [et] at b0
   rw [decide_eq_true (show qAP [] ds<1 by omega),Bool.true_or] at hB
   exact qAF _ rfl rfl (qAO hB.symm)
  have b0:¬ ((qAP [] (ds.take k):Nat):Int)<1:=b0
  rw [et] at b0
  rw [decide_eq_false (show ¬ qAP [] ds<1 by omega),Bool.false_or] at hB
  refine QAD (fun b1=>?_) (fun b1=>?_)
  ·have b1:(8:Int)<((qAP [] (ds.take k):Nat):Int):=b1
   rw [et] at b1
   rw [decide_eq_true (show 8<qAP [] ds by omega),Bool.true_or] at hB
   exact qAF _ rfl rfl (qAO hB.symm)
  have b1:¬ (8:Int)<((qAP [] (ds.take k):Nat):Int):=b1
  rw [et] at b1
  rw [decide_eq_false (show ¬ 8<qAP [] ds by omega),Bool.false_or] at hB
  refine QAD (fun b2=>?_) (fun b2=>?_)
  ·have b2:(4:Int)<((qAs (ds.take k):Nat):Int):=b2
   rw [et] at b2
   rw [decide_eq_true (show 4<qAs ds by omega),Bool.true_or] at hB
   exact qAF _ rfl rfl (qAO hB.symm)
  have b2:¬ (4:Int)<((qAs (ds.take k):Nat):Int):=b2
  rw [et] at b2
  rw [decide_eq_false (show ¬ 4<qAs ds by omega),Bool.false_or] at hB
  refine QAD (fun b3=>?_) (fun b3=>?_)
  ·have b3:(1024:Int)<((W:Nat):Int):=b3
   have:=e2 (by omega)
   rw [decide_eq_true this] at hB
   exact qAF _ rfl rfl (qAO hB.symm)
  ·have b3:¬ (1024:Int)<((W:Nat):Int):=b3
   have:=e1 (by omega)
   rw [decide_eq_false (show ¬ 1024<qAZ [] ds by omega)] at hB
   exact qAF _ rfl rfl (qAO hB.symm)
 have m1:(k:Int)<((ds.map De.cells).length:Nat):=m1
 rw [hm] at m1
 have hk:k<ds.length:=by omega
 have hcell:=qDm hk
 have h1:=qCS ds [] hno k hk
 rw [List.nil_append] at h1
 have hcard:=fun h=>qG6 (d:=ds.getD k de0) h1 h
 obtain⟨sN,sW,sG⟩:=qIg hk
 have hgl:qAs (ds.take k)<=30:=by rw [qAs];have:=List.length_filter_le (fun d:De=>decide (d.kind=5)) (ds.take k);rw [List.length_take] at this;omega
 have hspos:=fun h3 hp=>qMc hno hk h3 hp
 have hSz:=fun (p:List UInt8) (hp:p ≠ [])=>qLR (ds.take k) hp (by rw [List.length_take];omega) fun d hd=>hok d (List.mem_of_mem_take hd)
 generalize ds.getD k de0=d at hcell hcard sN sW sG hspos
 obtain⟨dk,dn,dnm,dpl,drs,dcs⟩:=d
 simp only [qSS] at sN sW sG hcard hspos
 refine⟨_,⟨by omega,(De.mk dk dn dnm dpl drs dcs).cells,hcell,rfl⟩,?_⟩
 refine QAD (fun q3=>?_) (fun q3=>?_)
 ·have q3:dk=3:=q3
  rw [if_pos q3] at sN sW
  rw [if_neg (by omega)] at sG
  have hG:qAs (ds.take (k+1))=qAs (ds.take k):=sG
  refine And.intro (fun hp=>?_) (fun hp=>?_)
  ·have hp:dpl=[]:=hp
   rw [if_pos hp] at sN sW
   have hN:=sN
   have hq:1<=1->2<=dn/\dn<=4:=fun _=>hcard (.inl q3)
   refine⟨((qAP [] (ds.take k)+1:Nat):Int),by rw [Int.natCast_add];exact w6z,?_⟩
   refine⟨Nat × Nat,fun y=>[(1, .ptr 0 0 0),(3, .p (i64 (qAP [] (ds.take k)+1:Nat))),(4, .p (i64 (qAs (ds.take k):Nat))),(5, .p (i64 (y.2:Nat))),(6, .p (i64 k)),(7, .ptr 1 0 0),(8, .p (i64 (1:Nat))),(9, .p (i64 y.1))],fun _=>⟨2,[(1,dcO ⟨dk,dn,dnm,dpl,drs,dcs⟩),(0,scO ds)]⟩,fun y=>y.1<=1/\WI y.2 (qAZ [] (ds.take k) * dn.toNat ^ y.1),fun y=>1 - y.1,?_,?_⟩
   ·exact⟨(0,W),⟨Nat.zero_le _,by show WI W (_ * _ ^ 0);rw [Nat.pow_zero,Nat.mul_one];exact k3⟩,qAA [] [] [] rfl (sk) (sk) rfl⟩
   rintro⟨j,V⟩ ⟨j1,j2⟩
   simp only [] at j1 j2
   have hV4:=j2.hi
   refine QAD (fun n1=>?_) (fun n1=>?_)
   rotate_left
   ·have n1:¬ (j:Int)<(1:Nat):=n1
    have hjm:j=1:=by omega
    have hV:WI V (qAZ [] (ds.take (k+1))):=by rw [sW,<- hjm];exact j2
    refine⟨_,w6z,?_⟩
    exact⟨(k+1,V),⟨by show k+1<=ds.length;omega,by show qAP [] (ds.take (k+1))<=6 * (k+1);omega,hV⟩,qAA [] [] [] rfl ⟨⟨rfl,rfl⟩,congrArg (fun z:Nat=>i64 z) hN,congrArg (fun z:Nat=>i64 z) hG,rfl,rfl,trivial⟩ (sk) rfl,by show ds.length - (k+1)<ds.length - k;omega⟩
   have n1:(j:Int)<(1:Nat):=n1
   have hd:=hq (by omega)
   refine QAD (fun n2=>?_) (fun n2=>?_)
   ·have n2:((V:Nat):Int)<=1024:=n2
    have hVe:=j2.eq (by omega)
    have hmul:((V:Nat):Int) * dn=((V * dn.toNat:Nat):Int):=by rw [Int.natCast_mul,show((dn.toNat:Nat):Int)=dn by omega]
    have hle:V * dn.toNat<=1024 * 4:=Nat.mul_le_mul (by omega) (by omega)
    refine⟨((V * dn.toNat:Nat):Int),by rw [<- hmul];exact w6z,?_⟩
    refine⟨_,w6z,?_⟩
    exact⟨(j+1,V * dn.toNat),⟨by show j+1<=1;omega,by show WI (V * dn.toNat) (_ * dn.toNat ^ (j+1));rw [Nat.pow_succ,<- Nat.mul_assoc,<- hVe];exact⟨fun _=>rfl,fun h=>h,hle⟩⟩,qAA [] [] [] rfl (sk) (sk) rfl,by show 1 - (j+1)<1 - j;omega⟩
   ·have n2:¬ ((V:Nat):Int)<=1024:=n2
    have hVb:=j2.big (by omega)
    have hV:WI V (qAZ [] (ds.take (k+1))):=by
     refine⟨fun h=>by omega,fun _=>?_,hV4⟩
     rw [sW]
     exact Nat.lt_of_lt_of_le hVb (Nat.mul_le_mul_left _ (Nat.pow_le_pow_right (by omega) j1))
    refine⟨_,w6z,?_⟩
    exact⟨(k+1,V),⟨by show k+1<=ds.length;omega,by show qAP [] (ds.take (k+1))<=6 * (k+1);omega,hV⟩,qAA [] [] [] rfl ⟨⟨rfl,rfl⟩,congrArg (fun z:Nat=>i64 z) hN,congrArg (fun z:Nat=>i64 z) hG,rfl,rfl,trivial⟩ (sk) rfl,by show ds.length - (k+1)<ds.length - k;omega⟩
  ·have hp:¬ dpl=[]:=hp
   rw [if_neg hp] at sN sW
   have hs:=hspos q3 hp
   have hS:=hSz dpl hp
   obtain⟨m,hme⟩:∃ m:Nat,qBT (ds.take k) dpl=(m:Nat):=⟨(qBT (ds.take k) dpl).toNat,by omega⟩
   rw [hme] at hS
   rw [hme,Int.toNat_natCast] at sN sW
   have hN:=sN
   have hq:1<=m->2<=dn/\dn<=4:=fun _=>hcard (.inl q3)
   have hm6:m<=6:=by omega
   have ea:[des (ds.take k),PV.str dpl]=[PV.lsts 6 ((ds.map De.cells).take ((k:Nat):Int).toNat), .str dpl]:=by show [PV.lsts 6 ((ds.take k).map De.cells),_]=_;rw [List.map_take];rfl
   rw [ea] at hS
   refine qAG qWF (by kernel_rfl) ?_
   refine⟨by show(0:Int)<=(k:Nat)/\((k:Nat):Int)<=((ds.map De.cells).length:Nat);rw [hm];omega,?_⟩
   refine hS.eq rfl ?_
   refine⟨((qAP [] (ds.take k)+m:Nat):Int),by rw [Int.natCast_add];exact w6z,?_⟩
   refine⟨Nat × Nat,fun y=>[(1, .ptr 0 0 0),(3, .p (i64 (qAP [] (ds.take k)+m:Nat))),(4, .p (i64 (qAs (ds.take k):Nat))),(5, .p (i64 (y.2:Nat))),(6, .p (i64 k)),(7, .ptr 1 0 0),(8, .p (i64 (m:Nat))),(9, .p (i64 y.1))],fun _=>⟨2,[(1,dcO ⟨dk,dn,dnm,dpl,drs,dcs⟩),(0,scO ds)]⟩,fun y=>y.1<=m/\WI y.2 (qAZ [] (ds.take k) * dn.toNat ^ y.1),fun y=>m - y.1,?_,?_⟩
   ·exact⟨(0,W),⟨Nat.zero_le _,by show WI W (_ * _ ^ 0);rw [Nat.pow_zero,Nat.mul_one];exact k3⟩,qAA [] [] [] rfl (sk) (sk) rfl⟩
   rintro⟨j,V⟩ ⟨j1,j2⟩
   simp only [] at j1 j2
   have hV4:=j2.hi
   refine QAD (fun n1=>?_) (fun n1=>?_)
   rotate_left
   ·have n1:¬ (j:Int)<(m:Nat):=n1
    have hjm:j=m:=by omega
    have hV:WI V (qAZ [] (ds.take (k+1))):=by rw [sW,<- hjm];exact j2
    refine⟨_,w6z,?_⟩
    exact⟨(k+1,V),⟨by show k+1<=ds.length;omega,by show qAP [] (ds.take (k+1))<=6 * (k+1);omega,hV⟩,qAA [] [] [] rfl ⟨⟨rfl,rfl⟩,congrArg (fun z:Nat=>i64 z) hN,congrArg (fun z:Nat=>i64 z) hG,rfl,rfl,trivial⟩ (sk) rfl,by show ds.length - (k+1)<ds.length - k;omega⟩
   have n1:(j:Int)<(m:Nat):=n1
   have hd:=hq (by omega)
   refine QAD (fun n2=>?_) (fun n2=>?_)
   ·have n2:((V:Nat):Int)<=1024:=n2
    have hVe:=j2.eq (by omega)
    have hmul:((V:Nat):Int) * dn=((V * dn.toNat:Nat):Int):=by rw [Int.natCast_mul,show((dn.toNat:Nat):Int)=dn by omega]
    have hle:V * dn.toNat<=1024 * 4:=Nat.mul_le_mul (by omega) (by omega)
    refine⟨((V * dn.toNat:Nat):Int),by rw [<- hmul];exact w6z,?_⟩
    refine⟨_,w6z,?_⟩
    exact⟨(j+1,V * dn.toNat),⟨by show j+1<=m;omega,by show WI (V * dn.toNat) (_ * dn.toNat ^ (j+1));rw [Nat.pow_succ,<- Nat.mul_assoc,<- hVe];exact⟨fun _=>rfl,fun h=>h,hle⟩⟩,qAA [] [] [] rfl (sk) (sk) rfl,by show m - (j+1)<m - j;omega⟩
   ·have n2:¬ ((V:Nat):Int)<=1024:=n2
    have hVb:=j2.big (by omega)
    have hV:WI V (qAZ [] (ds.take (k+1))):=by
     refine⟨fun h=>by omega,fun _=>?_,hV4⟩
     rw [sW]
     exact Nat.lt_of_lt_of_le hVb (Nat.mul_le_mul_left _ (Nat.pow_le_pow_right (by omega) j1))
    refine⟨_,w6z,?_⟩
    exact⟨(k+1,V),⟨by show k+1<=ds.length;omega,by show qAP [] (ds.take (k+1))<=6 * (k+1);omega,hV⟩,qAA [] [] [] rfl ⟨⟨rfl,rfl⟩,congrArg (fun z:Nat=>i64 z) hN,congrArg (fun z:Nat=>i64 z) hG,rfl,rfl,trivial⟩ (sk) rfl,by show ds.length - (k+1)<ds.length - k;omega⟩
 have q3:¬ dk=3:=q3
 rw [if_neg q3] at sN sW
 refine QAD (fun q4=>?_) (fun q4=>?_)
 ·have q4:dk=4:=q4
  rw [if_pos q4] at sN sW
  rw [if_neg (by omega)] at sG
  have hG:qAs (ds.take (k+1))=qAs (ds.take k):=sG
  have hN:=sN
  have hq:1<=1->2<=dn/\dn<=4:=fun _=>hcard (.inr q4)
  refine⟨((qAP [] (ds.take k)+1:Nat):Int),by rw [Int.natCast_add];exact w6z,?_⟩
  refine⟨Nat × Nat,fun y=>[(1, .ptr 0 0 0),(3, .p (i64 (qAP [] (ds.take k)+1:Nat))),(4, .p (i64 (qAs (ds.take k):Nat))),(5, .p (i64 (y.2:Nat))),(6, .p (i64 k)),(7, .ptr 1 0 0),(8, .p (i64 (1:Nat))),(9, .p (i64 y.1))],fun _=>⟨2,[(1,dcO ⟨dk,dn,dnm,dpl,drs,dcs⟩),(0,scO ds)]⟩,fun y=>y.1<=1/\WI y.2 (qAZ [] (ds.take k) * dn.toNat ^ y.1),fun y=>1 - y.1,?_,?_⟩
  ·exact⟨(0,W),⟨Nat.zero_le _,by show WI W (_ * _ ^ 0);rw [Nat.pow_zero,Nat.mul_one];exact k3⟩,qAA [] [] [] rfl (sk) (sk) rfl⟩
  rintro⟨j,V⟩ ⟨j1,j2⟩
  simp only [] at j1 j2
  have hV4:=j2.hi
  refine QAD (fun n1=>?_) (fun n1=>?_)
  rotate_left
  ·have n1:¬ (j:Int)<(1:Nat):=n1
   have hjm:j=1:=by omega
   have hV:WI V (qAZ [] (ds.take (k+1))):=by rw [sW,<- hjm];exact j2
   refine⟨_,w6z,?_⟩
   exact⟨(k+1,V),⟨by show k+1<=ds.length;omega,by show qAP [] (ds.take (k+1))<=6 * (k+1);omega,hV⟩,qAA [] [] [] rfl ⟨⟨rfl,rfl⟩,congrArg (fun z:Nat=>i64 z) hN,congrArg (fun z:Nat=>i64 z) hG,rfl,rfl,trivial⟩ (sk) rfl,by show ds.length - (k+1)<ds.length - k;omega⟩
  have n1:(j:Int)<(1:Nat):=n1
  have hd:=hq (by omega)
  refine QAD (fun n2=>?_) (fun n2=>?_)
  ·have n2:((V:Nat):Int)<=1024:=n2
   have hVe:=j2.eq (by omega)
   have hmul:((V:Nat):Int) * dn=((V * dn.toNat:Nat):Int):=by rw [Int.natCast_mul,show((dn.toNat:Nat):Int)=dn by omega]
   have hle:V * dn.toNat<=1024 * 4:=Nat.mul_le_mul (by omega) (by omega)
   refine⟨((V * dn.toNat:Nat):Int),by rw [<- hmul];exact w6z,?_⟩
   refine⟨_,w6z,?_⟩
   exact⟨(j+1,V * dn.toNat),⟨by show j+1<=1;omega,by show WI (V * dn.toNat) (_ * dn.toNat ^ (j+1));rw [Nat.pow_succ,<- Nat.mul_assoc,<- hVe];exact⟨fun _=>rfl,fun h=>h,hle⟩⟩,qAA [] [] [] rfl (sk) (sk) rfl,by show 1 - (j+1)<1 - j;omega⟩
  ·have n2:¬ ((V:Nat):Int)<=1024:=n2
   have hVb:=j2.big (by omega)
   have hV:WI V (qAZ [] (ds.take (k+1))):=by
    refine⟨fun h=>by omega,fun _=>?_,hV4⟩
    rw [sW]
    exact Nat.lt_of_lt_of_le hVb (Nat.mul_le_mul_left _ (Nat.pow_le_pow_right (by omega) j1))
   refine⟨_,w6z,?_⟩
   exact⟨(k+1,V),⟨by show k+1<=ds.length;omega,by show qAP [] (ds.take (k+1))<=6 * (k+1);omega,hV⟩,qAA [] [] [] rfl ⟨⟨rfl,rfl⟩,congrArg (fun z:Nat=>i64 z) hN,congrArg (fun z:Nat=>i64 z) hG,rfl,rfl,trivial⟩ (sk) rfl,by show ds.length - (k+1)<ds.length - k;omega⟩
 have q4:¬ dk=4:=q4
 rw [if_neg q4] at sN sW
 have hN:=sN
 have hq:1<=0->2<=dn/\dn<=4:=fun h=>absurd h (by decide)
 refine QAD (fun q5=>?_) (fun q5=>?_)
 ·have q5:dk=5:=q5
  rw [if_pos q5] at sG
  have hG:=sG
  refine⟨((qAs (ds.take k)+1:Nat):Int),by rw [Int.natCast_add];exact w6z,?_⟩
  refine⟨((qAP [] (ds.take k)+0:Nat):Int),by rw [Int.natCast_add];exact w6z,?_⟩
  refine⟨Nat × Nat,fun y=>[(1, .ptr 0 0 0),(3, .p (i64 (qAP [] (ds.take k)+0:Nat))),(4, .p (i64 (qAs (ds.take k)+1:Nat))),(5, .p (i64 (y.2:Nat))),(6, .p (i64 k)),(7, .ptr 1 0 0),(8, .p (i64 (0:Nat))),(9, .p (i64 y.1))],fun _=>⟨2,[(1,dcO ⟨dk,dn,dnm,dpl,drs,dcs⟩),(0,scO ds)]⟩,fun y=>y.1<=0/\WI y.2 (qAZ [] (ds.take k) * dn.toNat ^ y.1),fun y=>0 - y.1,?_,?_⟩
  ·exact⟨(0,W),⟨Nat.zero_le _,by show WI W (_ * _ ^ 0);rw [Nat.pow_zero,Nat.mul_one];exact k3⟩,qAA [] [] [] rfl (sk) (sk) rfl⟩
  rintro⟨j,V⟩ ⟨j1,j2⟩
  simp only [] at j1 j2
  have hV4:=j2.hi
  refine QAD (fun n1=>?_) (fun n1=>?_)
  rotate_left
  ·have n1:¬ (j:Int)<(0:Nat):=n1
   have hjm:j=0:=by omega
   have hV:WI V (qAZ [] (ds.take (k+1))):=by rw [sW,<- hjm];exact j2
   refine⟨_,w6z,?_⟩
   exact⟨(k+1,V),⟨by show k+1<=ds.length;omega,by show qAP [] (ds.take (k+1))<=6 * (k+1);omega,hV⟩,qAA [] [] [] rfl ⟨⟨rfl,rfl⟩,congrArg (fun z:Nat=>i64 z) hN,congrArg (fun z:Nat=>i64 z) hG,rfl,rfl,trivial⟩ (sk) rfl,by show ds.length - (k+1)<ds.length - k;omega⟩
  have n1:(j:Int)<(0:Nat):=n1
  have hd:=hq (by omega)
  refine QAD (fun n2=>?_) (fun n2=>?_)
  ·have n2:((V:Nat):Int)<=1024:=n2
   have hVe:=j2.eq (by omega)
   have hmul:((V:Nat):Int) * dn=((V * dn.toNat:Nat):Int):=by rw [Int.natCast_mul,show((dn.toNat:Nat):Int)=dn by omega]
   have hle:V * dn.toNat<=1024 * 4:=Nat.mul_le_mul (by omega) (by omega)
   refine⟨((V * dn.toNat:Nat):Int),by rw [<- hmul];exact w6z,?_⟩
   refine⟨_,w6z,?_⟩
   exact⟨(j+1,V * dn.toNat),⟨by show j+1<=0;omega,by show WI (V * dn.toNat) (_ * dn.toNat ^ (j+1));rw [Nat.pow_succ,<- Nat.mul_assoc,<- hVe];exact⟨fun _=>rfl,fun h=>h,hle⟩⟩,qAA [] [] [] rfl (sk) (sk) rfl,by show 0 - (j+1)<0 - j;omega⟩
  ·have n2:¬ ((V:Nat):Int)<=1024:=n2
   have hVb:=j2.big (by omega)
   have hV:WI V (qAZ [] (ds.take (k+1))):=by
    refine⟨fun h=>by omega,fun _=>?_,hV4⟩
    rw [sW]
    exact Nat.lt_of_lt_of_le hVb (Nat.mul_le_mul_left _ (Nat.pow_le_pow_right (by omega) j1))
   refine⟨_,w6z,?_⟩
   exact⟨(k+1,V),⟨by show k+1<=ds.length;omega,by show qAP [] (ds.take (k+1))<=6 * (k+1);omega,hV⟩,qAA [] [] [] rfl ⟨⟨rfl,rfl⟩,congrArg (fun z:Nat=>i64 z) hN,congrArg (fun z:Nat=>i64 z) hG,rfl,rfl,trivial⟩ (sk) rfl,by show ds.length - (k+1)<ds.length - k;omega⟩
 ·have q5:¬ dk=5:=q5
  rw [if_neg q5] at sG
  have hG:qAs (ds.take (k+1))=qAs (ds.take k):=sG
  refine⟨((qAP [] (ds.take k)+0:Nat):Int),by rw [Int.natCast_add];exact w6z,?_⟩
  refine⟨Nat × Nat,fun y=>[(1, .ptr 0 0 0),(3, .p (i64 (qAP [] (ds.take k)+0:Nat))),(4, .p (i64 (qAs (ds.take k):Nat))),(5, .p (i64 (y.2:Nat))),(6, .p (i64 k)),(7, .ptr 1 0 0),(8, .p (i64 (0:Nat))),(9, .p (i64 y.1))],fun _=>⟨2,[(1,dcO ⟨dk,dn,dnm,dpl,drs,dcs⟩),(0,scO ds)]⟩,fun y=>y.1<=0/\WI y.2 (qAZ [] (ds.take k) * dn.toNat ^ y.1),fun y=>0 - y.1,?_,?_⟩
  ·exact⟨(0,W),⟨Nat.zero_le _,by show WI W (_ * _ ^ 0);rw [Nat.pow_zero,Nat.mul_one];exact k3⟩,qAA [] [] [] rfl (sk) (sk) rfl⟩
  rintro⟨j,V⟩ ⟨j1,j2⟩
  simp only [] at j1 j2
  have hV4:=j2.hi
  refine QAD (fun n1=>?_) (fun n1=>?_)
  rotate_left
  ·have n1:¬ (j:Int)<(0:Nat):=n1
   have hjm:j=0:=by omega
   have hV:WI V (qAZ [] (ds.take (k+1))):=by rw [sW,<- hjm];exact j2
   refine⟨_,w6z,?_⟩
   exact⟨(k+1,V),⟨by show k+1<=ds.length;omega,by show qAP [] (ds.take (k+1))<=6 * (k+1);omega,hV⟩,qAA [] [] [] rfl ⟨⟨rfl,rfl⟩,congrArg (fun z:Nat=>i64 z) hN,congrArg (fun z:Nat=>i64 z) hG,rfl,rfl,trivial⟩ (sk) rfl,by show ds.length - (k+1)<ds.length - k;omega⟩
  have n1:(j:Int)<(0:Nat):=n1
  have hd:=hq (by omega)
  refine QAD (fun n2=>?_) (fun n2=>?_)
  ·have n2:((V:Nat):Int)<=1024:=n2
   have hVe:=j2.eq (by omega)
   have hmul:((V:Nat):Int) * dn=((V * dn.toNat:Nat):Int):=by rw [Int.natCast_mul,show((dn.toNat:Nat):Int)=dn by omega]
   have hle:V * dn.toNat<=1024 * 4:=Nat.mul_le_mul (by omega) (by omega)
   refine⟨((V * dn.toNat:Nat):Int),by rw [<- hmul];exact w6z,?_⟩
   refine⟨_,w6z,?_⟩
   exact⟨(j+1,V * dn.toNat),⟨by show j+1<=0;omega,by show WI (V * dn.toNat) (_ * dn.toNat ^ (j+1));rw [Nat.pow_succ,<- Nat.mul_assoc,<- hVe];exact⟨fun _=>rfl,fun h=>h,hle⟩⟩,qAA [] [] [] rfl (sk) (sk) rfl,by show 0 - (j+1)<0 - j;omega⟩
  ·have n2:¬ ((V:Nat):Int)<=1024:=n2
   have hVb:=j2.big (by omega)
   have hV:WI V (qAZ [] (ds.take (k+1))):=by
    refine⟨fun h=>by omega,fun _=>?_,hV4⟩
    rw [sW]
    exact Nat.lt_of_lt_of_le hVb (Nat.mul_le_mul_left _ (Nat.pow_le_pow_right (by omega) j1))
   refine⟨_,w6z,?_⟩
   exact⟨(k+1,V),⟨by show k+1<=ds.length;omega,by show qAP [] (ds.take (k+1))<=6 * (k+1);omega,hV⟩,qAA [] [] [] rfl ⟨⟨rfl,rfl⟩,congrArg (fun z:Nat=>i64 z) hN,congrArg (fun z:Nat=>i64 z) hG,rfl,rfl,trivial⟩ (sk) rfl,by show ds.length - (k+1)<ds.length - k;omega⟩
abbrev qXM:OT:=(.pure 0 (.pure 1 (.pure 2 (.pure 3 (.pure 4 (.pure 5 (.pure 6 (.pure 7 (.pure 8 (.pure 9 (.pure 10 (.eff 11 [] (.eff 12 [] (.pure 13 .fin) .nil) .nil))))))))))))
theorem qSu {ds:List De} (h:qAt ds=true):∀ d∈ds,DcZ d:=fun d hd=>qTl ((qHx h).2 d hd)
abbrev raH (ds:List De) (x:Nat × List Iss):Hp:=⟨2,[(1,isO x.2),(0,scO ds)]⟩
theorem qSK (ds:List De) (hv:qAt ds=true):Pure cx 30 [qCs ds] (·=.ret [isl (qFP ds)]):=by
 obtain⟨hlen,hdv⟩:=qC9 hv
 have hz:=qSu hv
 have hok:∀ d∈ds,OkD d:=fun d hd=>(hdv d hd).ok.ok
 have hm:(ds.map De.cells).length=ds.length:=List.length_map ..
 have hpre:∀ k,(qCk ds++qBm (qAb ds) [] (ds.take k)).length<=13000:=fun k=>by
  have h1:=qHJ ds
  have h2:=qFJ (qAb ds) (ds.take k) [] fun d hd=>hdv d (List.mem_of_mem_take hd)
  rw [List.length_take] at h2
  rw [List.length_append];omega
 refine qAB Tryz.func30 rfl rfl rfl ?_
 apply cut
 case h=>
  intro key
  by_cases h0:ds=[]
  ·have hh:qCk ds=[⟨1,0,[]⟩]:=by rw [h0];rfl
   have hg:qAb ds=0:=by rw [h0];rfl
   refine And.intro (fun _=>?_) (fun h=>absurd (show((ds.map De.cells).length:Int)=0 by rw [h0];rfl) h)
   refine⟨by show 0+1<=1;omega,[Iss.cells ⟨1,0,[]⟩],rfl,?_⟩
   refine⟨by show 1 * 32<=140737488355328;decide,?_⟩
   exact⟨Nat × List Iss,fun x=>[(1, .ptr 0 0 0),(3, .sl 1 3 0 x.2.length),(4, .p (i64 (qAb ds))),(5, .p (i64 x.1))],raH ds,fun x=>x.1<=ds.length/\x.2=qCk ds++qBm (qAb ds) [] (ds.take x.1),fun x=>ds.length - x.1,⟨(0,[⟨1,0,[]⟩]),⟨Nat.zero_le _,by show _=qCk ds++[];rw [List.append_nil,hh]⟩,qAA [] [(1,2)] [] rfl ⟨⟨rfl,rfl⟩,rfl,congrArg (fun z:Int=>i64 z) hg,rfl,trivial⟩ (sk) rfl⟩,key.get⟩
  ·have hpos:1<=ds.length:=by
    cases ds with
    | nil=>exact absurd rfl h0
    | cons d r=>show 1<=r.length+1;omega
   have hh:∃ t:De,(ds.map De.cells)[0]?=some t.cells/\(qCk ds=if t.kind=1 then [] else [⟨1,0,[]⟩])/\(qAb ds=if t.kind=1 then t.n else 0):=by
    cases ds with
    | nil=>exact absurd rfl h0
    | cons t r=>exact⟨t,rfl,rfl,rfl⟩
   obtain⟨⟨tk,tn,tnm,tpl,trs,tcs⟩,ht,hh,hg⟩:=hh
   refine And.intro (fun h=>absurd (show((ds.map De.cells).length:Int)=0 from h) (by rw [hm];omega)) (fun _=>?_)
   refine⟨_,⟨by decide,(De.mk tk tn tnm tpl trs tcs).cells,ht,rfl⟩,?_⟩
   refine And.intro (fun k1=>?_) (fun k1=>?_)
   ·have k1:tk=1:=k1
    simp only [if_pos k1] at hh hg
    refine⟨_,⟨by decide,(De.mk tk tn tnm tpl trs tcs).cells,ht,rfl⟩,?_⟩
    exact⟨Nat × List Iss,fun x=>[(1, .ptr 0 0 0),(3, .sl 1 3 0 x.2.length),(4, .p (i64 (qAb ds))),(5, .p (i64 x.1))],raH ds,fun x=>x.1<=ds.length/\x.2=qCk ds++qBm (qAb ds) [] (ds.take x.1),fun x=>ds.length - x.1,⟨(0,[]),⟨Nat.zero_le _,by show _=qCk ds++[];rw [List.append_nil,hh]⟩,qAA [] [] [(1,3)] rfl ⟨⟨rfl,rfl⟩,sk,congrArg (fun z:Int=>i64 z) hg,rfl,trivial⟩ (sk) rfl⟩,key.get⟩
   ·have k1:¬ tk=1:=k1
    simp only [if_neg k1] at hh hg
    refine⟨by show 0+1<=1;omega,[Iss.cells ⟨1,0,[]⟩],rfl,?_⟩
    refine⟨by show 1 * 32<=140737488355328;decide,?_⟩
    exact⟨Nat × List Iss,fun x=>[(1, .ptr 0 0 0),(3, .sl 1 3 0 x.2.length),(4, .p (i64 (qAb ds))),(5, .p (i64 x.1))],raH ds,fun x=>x.1<=ds.length/\x.2=qCk ds++qBm (qAb ds) [] (ds.take x.1),fun x=>ds.length - x.1,⟨(0,[⟨1,0,[]⟩]),⟨Nat.zero_le _,by show _=qCk ds++[];rw [List.append_nil,hh]⟩,qAA [] [(1,2)] [] rfl ⟨⟨rfl,rfl⟩,rfl,congrArg (fun z:Int=>i64 z) hg,rfl,trivial⟩ (sk) rfl⟩,key.get⟩
 case k=>
  rintro⟨k,cur⟩ ⟨k1,k2⟩
  simp only [] at k1 k2
  have hcl:cur.length<=13000:=by rw [k2];exact hpre k
  refine QAD (fun m1=>?_) (fun m1=>?_)
  rotate_left
  ·have m1:¬ (k:Int)<((ds.map De.cells).length:Nat):=m1
   rw [hm] at m1
   rw [show ds.take k=ds from qAc (by omega)] at k2
   obtain⟨R,hR⟩:∃ R,R=qFP ds:=⟨_,rfl⟩
   rw [<- hR]
   by_cases hb:cur=[]
   ·subst hb
    have hno:qBm (qAb ds) [] ds=[]:=(List.append_eq_nil_iff.1 k2.symm).2
    have hRa:R=if qHZ ds then [⟨10,ds.length,[]⟩] else []:=by rw [hR,qFP,if_pos (show qKx ds=[] from k2.symm)]
    have hB:=qUo ds hlen hok hno
    refine And.intro (fun _=>?_) (fun h=>absurd rfl h)
    by_cases hbg:qHZ ds=true
    ·rw [if_pos hbg] at hRa
     rw [hbg] at hB
     refine hB.eq rfl ?_
     refine⟨by show 0+1<=1;omega,[Iss.cells (Iss.mk 10 ((ds.map De.cells).length:Nat) [])],rfl,?_⟩
     refine⟨by show 0+0<=0;decide,[],rfl,by show(0+1) * 32<=140737488355328;decide,[Iss.cells (Iss.mk 10 ((ds.map De.cells).length:Nat) [])],rfl,?_⟩
     exact qAF (isl [Iss.mk 10 ((ds.map De.cells).length:Nat) []]) rfl ⟨_,rfl,by show 0+1<=1;decide,rfl⟩ (by rw [hRa,hm])
    ·rw [if_neg hbg] at hRa
     rw [Bool.not_eq_true] at hbg
     rw [hbg] at hB
     refine hB.eq rfl ?_
     exact qAF (isl []) rfl ⟨_,rfl,by show 0+0<=0;decide,rfl⟩ (by rw [hRa])
   ·have hRa:R=cur:=by
     rw [hR,qFP,if_neg (show ¬ qKx ds=[] from fun e=>hb (k2.trans e))];exact k2.symm
    have hl0:¬ cur.length=0:=fun e=>hb (List.eq_nil_of_length_eq_zero e)
    refine And.intro (fun h=>absurd (show((cur.length:Nat):Int)=0 from h) (by omega)) (fun _=>?_)
    exact qAF (isl cur) rfl ⟨_,rfl,by show 0+cur.length<=(cur.map Iss.cells).length;simp,qAD (by simp)⟩ (by rw [hRa])
  have m1:(k:Int)<((ds.map De.cells).length:Nat):=m1
  rw [hm] at m1
  have hk:k<ds.length:=by omega
  have hcell:=qDm hk
  have hd:=hdv _ (qAI de0 hk)
  have hdz:=hz _ (qAI de0 hk)
  have hO:=qUd (ds.take k) (ds.getD k de0) (qAb ds) hd hdz (by rw [List.length_take];omega) fun d hd=>hok d (List.mem_of_mem_take hd)
  have hln:=qMr (ds.take k) (qAb ds) hd
  have k4:cur++qCW (ds.take k) (ds.getD k de0) (qAb ds)=qCk ds++qBm (qAb ds) [] (ds.take (k+1)):=by rw [qKk hk,<- List.append_assoc,<- k2]
  generalize qCW (ds.take k) (ds.getD k de0) (qAb ds)=X at hO hln k4
  generalize ds.getD k de0=d at hcell hO
  obtain⟨dk,dn,dnm,dpl,drs,dcs⟩:=d
  have ea:[des (ds.take k),(De.mk dk dn dnm dpl drs dcs).pv,i64 (qAb ds)]=[PV.lsts 6 ((ds.map De.cells).take ((k:Nat):Int).toNat),(De.mk dk dn dnm dpl drs dcs).pv,i64 (qAb ds)]:=by show [PV.lsts 6 ((ds.take k).map De.cells),_,_]=_;rw [List.map_take];rfl
  rw [ea] at hO
  refine qAG qXM (by kernel_rfl) ?_
  refine⟨by show(0:Int)<=(k:Nat)/\((k:Nat):Int)<=((ds.map De.cells).length:Nat);rw [hm];omega,?_⟩
  refine⟨_,⟨by omega,(De.mk dk dn dnm dpl drs dcs).cells,hcell,rfl⟩,?_⟩
  refine hO.eq rfl ?_
  refine⟨by show 0+cur.length<=(cur.map Iss.cells).length;simp,cur.map Iss.cells,qAD (by simp),by show(cur.length+(X.map Iss.cells).length) * 32<=140737488355328;rw [List.length_map];omega,(cur++X).map Iss.cells,by rw [List.map_append],?_⟩
  refine⟨_,w6z,?_⟩
  exact⟨(k+1,cur++X),⟨by show k+1<=ds.length;omega,k4⟩,qAA [] [(1,2)] [] rfl ⟨⟨rfl,rfl⟩,congrArg (fun j:Nat=>AV.sl 2 3 0 j) (by rw [List.length_append,List.length_map]),rfl,rfl,trivial⟩ (sk) rfl,by show ds.length - (k+1)<ds.length - k;omega⟩
theorem qPJ (ds:List De) (hb:BigP ds):Pure cx 10 [qCs ds] (·=.ret (qNB ds)):=by
 have hC:=qUq ds hb
 by_cases hv:qAt ds=true
 ·have hI:qNB ds=[isl (qFP ds),i64 0]:=by rw [qNB,if_pos hv]
  have hA:=qSK ds hv
  rw [hI]
  rw [hv] at hC
  refine qAB Tryz.func10 rfl rfl rfl ?_
  refine hC.eq rfl ?_
  refine hA.eq rfl ?_
  exact qFt (isl (qFP ds)) (i64 0) rfl rfl rfl rfl
 ·have hI:qNB ds=[isl [],i64 380]:=by rw [qNB,if_neg hv]
  rw [hI]
  rw [Bool.not_eq_true] at hv
  rw [hv] at hC
  refine qAB Tryz.func10 rfl rfl rfl ?_
  refine hC.eq rfl ?_
  exact qFt (isl []) (i64 380) rfl (.inr (.inr ⟨3,rfl⟩)) rfl rfl
theorem qJ3 (ds:List De) (hb:BigP ds):Pure cx 18 [qCs ds] (·=.ret [i64 (qBK ds)]):=by
 have hC:=qUq ds hb
 by_cases hv:qAt ds=true
 ·have hA:=qSK ds hv
  rw [hv] at hC
  by_cases hn:qFP ds=[]
  ·have hs:qBK ds=0:=by rw [qBK,if_pos hv,if_pos hn]
   rw [hs]
   rw [hn] at hA
   refine qAB Tryz.func18 rfl rfl rfl ?_
   refine hC.eq rfl ?_
   refine hA.eq rfl ?_
   refine And.intro (fun h=>absurd (show(0:Int)<0 from h) (by decide)) (fun _=>?_)
   exact qAF _ rfl rfl rfl
  ·have hs:qBK ds=390:=by rw [qBK,if_pos hv,if_neg hn]
   have hl:1<=(qFP ds).length:=List.length_pos_iff.2 hn
   rw [hs]
   generalize qFP ds=R at hA hl
   refine qAB Tryz.func18 rfl rfl rfl ?_
   refine hC.eq rfl ?_
   refine hA.eq rfl ?_
   refine And.intro (fun _=>?_) (fun h=>absurd (show(0:Int)<((R.map Iss.cells).length:Nat) by rw [List.length_map];omega) h)
   exact qAF _ rfl rfl rfl
 ·have hs:qBK ds=380:=by rw [qBK,if_neg hv]
  rw [hs]
  rw [Bool.not_eq_true] at hv
  rw [hv] at hC
  refine qAB Tryz.func18 rfl rfl rfl ?_
  refine hC.eq rfl ?_
  exact qAF _ rfl rfl rfl
abbrev qUw:OT:=(.eff 16 [] (.pure 17 .fin) .nil)
abbrev qWj:OT:=(.pure 0 (.pure 1 (.pure 2 (.pure 3 (.pure 4 (.pure 5 (.pure 6 (.pure 7 (.pure 8 (.pure 9 (.pure 10 (.eff 11 [] (.pure 12 (.pure 13 (.pure 14 (.eff 15 [10,6,1] qUw .nil)))) (.eff 15 [10,6,1] (.eff 11 [] (.pure 12 (.pure 13 (.pure 14 qUw))) .nil) .nil)))))))))))))
theorem qRr {ds:List De} {k:Nat} (hk:k<ds.length) {d:De} (hd:ds.getD k de0=d) (hn:d.name ≠ []) (h2:qCR (ds.take k) d.name=none):fnd (ds.take (k+1)) d.name=some (qCH (ds.take k) d):=by
 have hi:qBz (ds.take k) d.name=none:=by
  rw [qCR] at h2
  cases h:qBz (ds.take k) d.name with
  | none=>rfl
  | some i=>rw [h] at h2;cases h2
 have hl:(ds.take k).length=k:=by rw [List.length_take];omega
 rw [fnd,if_neg hn,qAE de0 hk,hd,qKb,hi]
 show(if d.name=d.name then some (ds.take k).length else none).map (fun i=>qCH ((ds.take k++[d]).take i) ((ds.take k++[d]).getD i de0))=_
 rw [if_pos rfl,hl]
 show some (qCH ((ds.take k++[d]).take k) ((ds.take k++[d]).getD k de0))=_
 congr 2
 ·conv=>lhs;arg 1;rw [<- hl]
  rw [List.take_left]
 ·rw [List.getD_eq_getElem?_getD,List.getElem?_append_right (by omega),hl,Nat.sub_self];rfl
theorem qNv (ds:List De) (hb:BigP ds):Pure cx 20 [qCs ds] (·=.ret (qUC ds)):=by
 have hC:=qJ3 ds hb
 rw [qUC]
 by_cases hs:qBK ds=0
 rotate_left
 ·rw [if_neg hs]
  generalize qBK ds=e at hC hs
  refine qAB Tryz.func20 rfl rfl rfl ?_
  refine hC.eq rfl ?_
  refine And.intro (fun h=>absurd (show e=0 from h) hs) (fun _=>?_)
  exact qFt (syl []) (i64 e) rfl (.inr (.inr ⟨5,rfl⟩)) rfl rfl
 rw [if_pos hs]
 rw [hs] at hC
 have hv:qAt ds=true:=by
  by_cases hv:qAt ds=true
  ·exact hv
  ·rw [qBK,if_neg hv] at hs;cases hs
 have hn:qFP ds=[]:=by
  by_cases hn:qFP ds=[]
  ·exact hn
  ·rw [qBK,if_pos hv,if_neg hn] at hs;cases hs
 obtain⟨hlen,hdv⟩:=qC9 hv
 have hok:∀ d∈ds,OkD d:=fun d hd=>(hdv d hd).ok.ok
 have hno:=(base_nil hn).2.1
 have hm:(ds.map De.cells).length=ds.length:=List.length_map ..
 refine qAB Tryz.func20 rfl rfl rfl ?_
 refine hC.eq rfl ?_
 refine And.intro (fun _=>?_) (fun h=>absurd rfl h)
 refine⟨Nat × List Sy,fun x=>[(1, .ptr 0 0 0),(5, .sl 1 5 0 x.2.length),(6, .p (i64 x.1))],fun x=>⟨2,[(1,syO x.2),(0,scO ds)]⟩,fun x=>x.1<=ds.length/\x.2=qEb [] (ds.take x.1),fun x=>ds.length - x.1,?_,?_⟩
 ·exact⟨(0,[]),⟨Nat.zero_le _,rfl⟩,qAA [] [] [(1,5)] rfl (sk) (sk) rfl⟩
 rintro⟨k,cur⟩ ⟨k1,k2⟩
 simp only [] at k1 k2
 have hcl:cur.length<=30:=by
  rw [k2,qE3]
  have:=List.length_filter_le (fun d:De=>decide (d.kind=2∨d.kind=3∨d.kind=4)) (ds.take k)
  rw [List.length_take] at this;omega
 refine QAD (fun m1=>?_) (fun m1=>?_)
 rotate_left
 ·have m1:¬ (k:Int)<((ds.map De.cells).length:Nat):=m1
  rw [hm] at m1
  rw [show ds.take k=ds from qAc (by omega)] at k2
  exact qFt (syl cur) (i64 0) rfl ⟨_,rfl,by show 0+cur.length<=(cur.map Sy.cells).length;simp,qAD (by simp)⟩ rfl (by rw [k2])
 have m1:(k:Int)<((ds.map De.cells).length:Nat):=m1
 rw [hm] at m1
 have hk:k<ds.length:=by omega
 have hcell:=qDm hk
 have hd:=hdv _ (qAI de0 hk)
 have h1:=qCS ds [] hno k hk
 rw [List.nil_append] at h1
 have hS:=qJu hk
 rw [<- k2] at hS
 have hF:=qHM (ds.take (k+1)) (ds.getD k de0).name (by rw [List.length_take];omega) fun d hd=>hok d (List.mem_of_mem_take hd)
 have hN:=fun hn h2=>qRr hk (d:=ds.getD k de0) rfl hn h2
 have ht:=fun h=>qMy h1 h
 generalize ds.getD k de0=d at hcell hd h1 hS hF hN ht
 clear h1
 have hkind:=hd.ok.ok.kind
 have hname:=hd.ok.ok.name
 have hbare:=hd.ok.ok.bare
 rw [qQH] at hF
 by_cases hq:d.kind=2∨d.kind=3∨d.kind=4
 ·rw [if_pos hq] at hS
  rw [hN (hname hq) (ht hq)] at hF
  simp only [] at hF
  generalize qCH (ds.take k) d=y at hF hS
  obtain⟨y1,y2,y3,y4,y5⟩:=y
  obtain⟨dk,dn,dnm,dpl,drs,dcs⟩:=d
  have ea:[des (ds.take (k+1)),PV.str dnm]=[PV.lsts 6 ((ds.map De.cells).take ((k+1:Nat):Int).toNat), .str dnm]:=by show [PV.lsts 6 ((ds.take (k+1)).map De.cells),_]=_;rw [List.map_take];rfl
  have hF:Pure cx 34 [des (ds.take (k+1)),PV.str dnm] (·=.ret [.agg [.str y1,i64 y2, .str y3,i64 y4,i64 y5], .bool true]):=hF
  rw [ea] at hF
  refine qAG qWj (by kernel_rfl) ?_
  refine⟨((k+1:Nat):Int),by rw [Int.natCast_add];exact w6z,?_⟩
  refine⟨by show(0:Int)<=((k+1:Nat):Int)/\((k+1:Nat):Int)<=((ds.map De.cells).length:Nat);rw [hm];omega,?_⟩
  refine⟨_,⟨by omega,(De.mk dk dn dnm dpl drs dcs).cells,hcell,rfl⟩,?_⟩
  refine And.intro ?_ ?_
  ·refine hF.eq rfl ?_
   refine⟨sk,?_⟩
   refine⟨by show 0+1<=1;omega,[Sy.cells (Sy.mk y1 y2 y3 y4 y5)],rfl,?_⟩
   refine⟨by show 0+cur.length<=(cur.map Sy.cells).length;simp,cur.map Sy.cells,qAD (by simp),by show(cur.length+1) * 56<=140737488355328;omega,(cur++[Sy.mk y1 y2 y3 y4 y5]).map Sy.cells,by rw [List.map_append];rfl,?_⟩
   refine⟨_,w6z,?_⟩
   exact⟨(k+1,cur++[Sy.mk y1 y2 y3 y4 y5]),⟨by show k+1<=ds.length;omega,by rw [hS]⟩,qAA [] [(1,4)] [] rfl ⟨⟨rfl,rfl⟩,congrArg (fun j:Nat=>AV.sl 4 5 0 j) (qAN cur _).symm,rfl,trivial⟩ (sk) rfl,by show ds.length - (k+1)<ds.length - k;omega⟩
  ·refine⟨sk,?_⟩
   refine hF.eq rfl ?_
   refine⟨by show 0+1<=1;omega,[Sy.cells (Sy.mk y1 y2 y3 y4 y5)],rfl,?_⟩
   refine⟨by show 0+cur.length<=(cur.map Sy.cells).length;simp,cur.map Sy.cells,qAD (by simp),by show(cur.length+1) * 56<=140737488355328;omega,(cur++[Sy.mk y1 y2 y3 y4 y5]).map Sy.cells,by rw [List.map_append];rfl,?_⟩
   refine⟨_,w6z,?_⟩
   exact⟨(k+1,cur++[Sy.mk y1 y2 y3 y4 y5]),⟨by show k+1<=ds.length;omega,by rw [hS]⟩,qAA [] [(1,4)] [] rfl ⟨⟨rfl,rfl⟩,congrArg (fun j:Nat=>AV.sl 4 5 0 j) (qAN cur _).symm,rfl,trivial⟩ (sk) rfl,by show ds.length - (k+1)<ds.length - k;omega⟩
 ·rw [if_neg hq,List.append_nil] at hS
  have h0:d.name=[]:=hbare (by omega)
  rw [h0,fnd,if_pos rfl] at hF
  simp only [] at hF
  obtain⟨dk,dn,dnm,dpl,drs,dcs⟩:=d
  have h0:dnm=[]:=h0
  subst h0
  have ea:[des (ds.take (k+1)),PV.str []]=[PV.lsts 6 ((ds.map De.cells).take ((k+1:Nat):Int).toNat), .str []]:=by show [PV.lsts 6 ((ds.take (k+1)).map De.cells),_]=_;rw [List.map_take];rfl
  rw [ea] at hF
  refine qAG qWj (by kernel_rfl) ?_
  refine⟨((k+1:Nat):Int),by rw [Int.natCast_add];exact w6z,?_⟩
  refine⟨by show(0:Int)<=((k+1:Nat):Int)/\((k+1:Nat):Int)<=((ds.map De.cells).length:Nat);rw [hm];omega,?_⟩
  refine⟨_,⟨by omega,(De.mk dk dn [] dpl drs dcs).cells,hcell,rfl⟩,?_⟩
  refine And.intro ?_ ?_
  ·refine hF.eq rfl ?_
   refine⟨sk,?_⟩
   refine⟨_,w6z,?_⟩
   exact⟨(k+1,cur),⟨by show k+1<=ds.length;omega,by rw [hS]⟩,qAA [] [] [] rfl (sk) (sk) rfl,by show ds.length - (k+1)<ds.length - k;omega⟩
  ·refine⟨sk,?_⟩
   refine hF.eq rfl ?_
   refine⟨_,w6z,?_⟩
   exact⟨(k+1,cur),⟨by show k+1<=ds.length;omega,by rw [hS]⟩,qAA [] [] [] rfl (sk) (sk) rfl,by show ds.length - (k+1)<ds.length - k;omega⟩
set_option maxHeartbeats 4000000
set_option maxHeartbeats 40000000
theorem qRY {s:List UInt8} {ds:List De} (h:qLd s=.inr ds):BigP ds:=by
 unfold qLd at h
 split at h
 ·cases h
 ·cases hr:qG2 s with
  | err p c=>rw [hr] at h;cases h
  | ok ws=>
   rw [hr] at h
   have hg:=qKA hr
   have hl:=hg.len
   cases hp:qFg ws (qJU ws) (qJU ws) [] 0 with
   | inl q=>simp only [hp] at h;cases h
   | inr x=>
    obtain⟨l,q⟩:=x
    simp only [hp] at h
    split at h
    ·injection h with h
     subst h
     exact qKE hg (by rw [qJU];omega) hp
    ·cases h
abbrev zc0:List PV:=[i64 0,i64 0,i64 0,i64 0, .str [],i64 0, .str [],i64 0, .nils, .nils]
theorem qU5 (l:List Int):NilDL (zc0++[.lst (l.map i64)]) (⟨cd0,l⟩:Cs).cells:=by
 show NilDL [i64 0,i64 0,i64 0,i64 0, .str [],i64 0, .str [],i64 0, .nils, .nils, .lst (l.map i64)] [i64 0,i64 0,i64 0,i64 0, .str [],i64 0, .str [],i64 0, .lst [], .lsts 10 [], .lst (l.map i64)]
 simp only [NilD,NilDL]
 exact⟨_,_,rfl,rfl,_,_,rfl,rfl,_,_,rfl,rfl,_,_,rfl,rfl,_,_,rfl,rfl,_,_,rfl,rfl,_,_,rfl,rfl,_,_,rfl,rfl,_,_,rfl, .inr (.inl rfl),_,_,rfl, .inr (.inr ⟨10,rfl⟩),_,_,rfl,⟨_,rfl,NilDL.refl _⟩,rfl⟩
theorem qN5 {s:List UInt8} {ds:List De} (h:qLd s=.inr ds):qAt ds=true:=by
 unfold qLd at h
 split at h
 ·cases h
 ·cases hr:qG2 s with
  | err p c=>rw [hr] at h;cases h
  | ok ws=>
   rw [hr] at h
   cases hp:qFg ws (qJU ws) (qJU ws) [] 0 with
   | inl q=>simp only [hp] at h;cases h
   | inr x=>
    obtain⟨l,q⟩:=x
    simp only [hp] at h
    split at h
    ·rename_i hv
     injection h with h
     subst h
     exact hv
    ·cases h
abbrev hdS:List UInt8:=[103,114,97,105,110,32,52,32,59,32,112,108,97,116,101,32,112,32,61,32,50,32,59,32,110,111,100,101,32,97,32,91,32,112,32,93,32,58,32,50,32,61,32,123,32,101,108,115,101,32,58,32,49,32,51,32,125,32,59,32]
theorem headc_c:Pure cx 22 [] (·=.ret [.str hdS]):=by
 refine qAB Tryz.func22 rfl rfl rfl ?_
 exact qAF _ rfl rfl rfl
theorem qCJ (k d:Int) (nm:List UInt8):Pure cx 15 [i64 k,i64 d, .str nm] (·=.ret [.agg (Iss.mk k d nm).cells]):=by
 refine qAB Tryz.func15 rfl rfl rfl ?_
 exact qAF _ rfl rfl rfl
def okS (s:List UInt8) (want:List Iss):Bool:=match qLd s with
 | .inl _=>false
 | .inr ds=>decide (qFP ds=want)
theorem qEC (s:List UInt8) (want:List Iss) (h:okS s want=true) (hl:want.length<=1000000):Pure cx 24 [.str s,isl want] (·=.ret [.bool true]):=by
 have hP:=qTE s
 rw [okS] at h
 cases hp:qLd s with
 | inl x=>rw [hp] at h;cases h
 | inr ds=>
  rw [hp] at h hP
  have ha:qFP ds=want:=of_decide_eq_true h
  have hb:=qRY hp
  have hv:=qN5 hp
  have hI:=qJP ds hb
  have hC:=qIz ds hb
  have hS:=qNA want want hl hl
  rw [decide_eq_true (show want=want from rfl)] at hS
  rw [qNB,if_pos hv,ha] at hI
  rw [qBK,if_pos hv,ha] at hC
  clear h hp
  by_cases hn:want=[]
  ·rw [if_pos hn] at hC
   subst hn
   refine qAB Tryz.func24 rfl rfl rfl ?_
   refine hP.eq rfl ?_
   refine hI.eq rfl ?_
   refine hC.eq rfl ?_
   refine And.intro (fun _=>?_) (fun h=>absurd rfl h)
   refine And.intro (fun _=>?_) (fun h=>absurd rfl h)
   refine hS.eq rfl ?_
   refine And.intro (fun _=>?_) (fun h=>absurd rfl h)
   refine And.intro (fun _=>?_) (fun h=>absurd rfl h)
   refine And.intro (fun _=>?_) (fun h=>absurd rfl h)
   refine And.intro (fun _=>?_) (fun h=>absurd rfl h)
   exact qAF _ rfl rfl rfl
  ·rw [if_neg hn] at hC
   have hp1:1<=want.length:=List.length_pos_iff.2 hn
   have hm:(want.map Iss.cells).length=want.length:=List.length_map ..
   refine qAB Tryz.func24 rfl rfl rfl ?_
   refine hP.eq rfl ?_
   refine hI.eq rfl ?_
   refine hC.eq rfl ?_
   refine And.intro (fun _=>?_) (fun h=>absurd rfl h)
   refine And.intro (fun _=>?_) (fun h=>absurd rfl h)
   refine hS.eq rfl ?_
   refine And.intro (fun h=>absurd (show(390:Int)=0 from h) (by decide)) (fun _=>?_)
   refine And.intro (fun h=>absurd (show((want.map Iss.cells).length:Int)=0 from h) (by rw [hm];omega)) (fun _=>?_)
   refine And.intro (fun _=>?_) (fun h=>absurd rfl h)
   refine And.intro (fun h=>absurd (show(390:Int)=0 from h) (by decide)) (fun _=>?_)
   refine And.intro (fun _=>?_) (fun h=>absurd rfl h)
   exact qAF _ rfl rfl rfl
theorem qWs:okS hdS []=true:=by kernel_rfl
abbrev qW2:List UInt8:=[110,111,100,101,32,98,32,58,32,51,32,102,114,111,109,32,97,32,91,32,49,32,93,32,44,32,99,32,61,32,123,32,97,32,91,32,49,32,93,32,61,32,50,32,58,32,52,32,48,32,48,32,59,32,101,108,115,101,32,58,32,49,32,51,32,125,32,59]
abbrev qWe:List Iss:=[⟨3,3,[99]⟩,⟨8,3,[97]⟩,⟨9,3,[]⟩]
theorem qWx:okS (hdS++qW2) qWe=true:=by kernel_rfl
abbrev qW1:List UInt8:=[110,111,100,101,32,98,32,58,32,50,32,102,114,111,109,32,97,32,61,32,123,32,97,32,91,32,48,32,93,32,61,32,49,32,58,32,52,32,48,32,59,32,101,108,115,101,32,58,32,48,32,52,32,125,32,59]
abbrev qWd:List Iss:=[⟨4,3,[97]⟩,⟨7,3,[97]⟩]
theorem qWw:okS (hdS++qW1) qWd=true:=by kernel_rfl
abbrev qW0:List UInt8:=[110,111,100,101,32,98,32,91,32,112,32,93,32,58,32,50,32,102,114,111,109,32,97,32,91,32,112,32,43,32,49,32,93,32,44,32,98,32,91,32,112,32,43,32,49,32,93,32,61,32,123,32,101,108,115,101,32,58,32,50,32,50,32,125,32,59,32,103,97,105,110,32,102,114,111,109,32,98,32,91,32,112,32,93,32,61,32,123,32,101,108,115,101,32,58,32,49,48,49,32,125,32,59]
abbrev qWc:List Iss:=[⟨4,4,[98]⟩,⟨9,4,[]⟩]
theorem qWv:okS (hdS++qW0) qWc=true:=by kernel_rfl
abbrev qWz:List UInt8:=[112,108,97,116,101,32,112,32,61,32,55,32,59,32,99,104,111,111,115,101,32,112,32,58,32,49,32,59]
abbrev qWb:List Iss:=[⟨1,0,[]⟩,⟨5,0,[112]⟩,⟨2,1,[112]⟩,⟨6,1,[112]⟩]
theorem qWu:okS qWz qWb=true:=by kernel_rfl
abbrev qWy:List UInt8:=[110,111,100,101,32,98,32,58,32,52,32,61,32,123,32,101,108,115,101,32,58,32,49,32,49,32,49,32,49,32,125,32,59,32,110,111,100,101,32,99,32,91,32,112,32,93,32,58,32,52,32,61,32,123,32,101,108,115,101,32,58,32,49,32,49,32,49,32,49,32,125,32,59,32,110,111,100,101,32,100,32,91,32,112,32,93,32,58,32,52,32,61,32,123,32,101,108,115,101,32,58,32,49,32,49,32,49,32,49,32,125,32,59]
abbrev qWa:List Iss:=[⟨10,6,[]⟩]
theorem qWt:okS (hdS++qWy) qWa=true:=by kernel_rfl
theorem works39_c:Pure cx 12 [] (·=.ret [.bool true]):=by
 refine qAB Tryz.func12 rfl rfl rfl ?_
 refine headc_c.eq rfl ?_
 refine((qEC hdS [] qWs (by decide)).arg (args':=[.str hdS, .nils]) ⟨_,_,rfl,rfl,_,_,rfl, .inr (.inr ⟨3,rfl⟩),rfl⟩).eq rfl ?_
 refine headc_c.eq rfl ?_
 refine⟨QAC,?_⟩
 refine(qCJ 3 3 [99]).eq rfl ?_
 refine(qCJ 8 3 [97]).eq rfl ?_
 refine(qCJ 9 3 []).eq rfl ?_
 refine(qEC _ qWe qWx (by decide)).lends [0] rfl ⟨_,_,rfl,rfl,_,_,rfl,⟨_,rfl,Nat.le_refl _,rfl⟩,rfl⟩ ?_
 refine headc_c.eq rfl ?_
 refine⟨QAC,?_⟩
 refine(qCJ 4 3 [97]).eq rfl ?_
 refine(qCJ 7 3 [97]).eq rfl ?_
 refine(qEC _ qWd qWw (by decide)).lends [1] rfl ⟨_,_,rfl,rfl,_,_,rfl,⟨_,rfl,Nat.le_refl _,rfl⟩,rfl⟩ ?_
 refine headc_c.eq rfl ?_
 refine⟨QAC,?_⟩
 refine(qCJ 4 4 [98]).eq rfl ?_
 refine(qCJ 9 4 []).eq rfl ?_
 refine(qEC _ qWc qWv (by decide)).lends [2] rfl ⟨_,_,rfl,rfl,_,_,rfl,⟨_,rfl,Nat.le_refl _,rfl⟩,rfl⟩ ?_
 refine(qCJ 1 0 []).eq rfl ?_
 refine(qCJ 5 0 [112]).eq rfl ?_
 refine(qCJ 2 1 [112]).eq rfl ?_
 refine(qCJ 6 1 [112]).eq rfl ?_
 refine(qEC _ qWb qWu (by decide)).lends [3] rfl ⟨_,_,rfl,rfl,_,_,rfl,⟨_,rfl,Nat.le_refl _,rfl⟩,rfl⟩ ?_
 refine headc_c.eq rfl ?_
 refine⟨QAC,?_⟩
 refine(qCJ 10 6 []).eq rfl ?_
 refine(qEC _ qWa qWt (by decide)).lends [4] rfl ⟨_,_,rfl,rfl,_,_,rfl,⟨_,rfl,Nat.le_refl _,rfl⟩,rfl⟩ ?_
 exact qAF _ rfl rfl rfl
end Go.Proofs.YtmepdfingcmkmaaGreatDoor
namespace Go.Proofs.YtmepdfingcmkmaaGreatDoor.Y
open Go
def partsOf (P:Program) (t:TypeId):Option (List (TypeId × Nat)):=
 match P.underlying t with
 | some (.struct fs)=>some (fs.toList.map fun f=>(f.type,f.offset))
 | some (.array k e)=>some ((List.range k).map fun i=>(e,i * P.cellsOf e))
 | _=>none
def qGI (P:Program):List (TypeId × Nat)->Nat->Option Nat
 | [],o=>some o
 | f::r,o=>if f.2=o then qGI P r (o+P.cellsOf f.1) else none
theorem qMW {P:Program}:∀ {l:List (TypeId × Nat)} {o n:Nat},qGI P l o=some n->o<=n
 | [],o,n,h=>by simp only [qGI,Option.some.injEq] at h;omega
 | f::r,o,n,h=>by
  simp only [qGI] at h
  split at h
  ·have:=qMW h;omega
  ·cases h
def basic:TypeDesc->Bool
 | .bool=>true
 | .int _=>true
 | .string=>true
 | _=>false
def qUD (P:Program):Nat->TypeId->Bool
 | 0,_=>false
 | n+1,t=>match partsOf P t with
  | some l=>decide (qGI P l 0=some (P.cellsOf t)) && l.all fun f=>qUD P n f.1
  | none=>match P.underlying t with
   | some (.slice e)=>decide (0<P.cellsOf e) && qUD P n e
   | some d=>basic d
   | none=>false
def qVi (P:Program) (p:TypeId->List PV->Prop):List (TypeId × Nat)->List PV->Prop
 | [],xs=>xs=[]
 | f::r,xs=>∃ ys zs,xs=ys++zs/\ys.length=P.cellsOf f.1/\p f.1 ys/\qVi P p r zs
def TyT (P:Program):Nat->TypeId->List PV->Prop
 | 0,_,_=>False
 | m+1,t,xs=>match partsOf P t with
  | some l=>qVi P (TyT P m) l xs
  | none=>match P.underlying t with
   | some .bool=>∃ b,xs=[.bool b]
   | some (.int k)=>∃ n,xs=[.int k n]/\(Lit.int k n).wf=true
   | some .string=>∃ s,xs=[.str s]/\s.length<=maxLen
   | some (.slice e)=>match Nat.beq (P.cellsOf e) 1 with
    | true=>∃ ys,xs=[.lst ys]/\ys.length<=maxLen/\∀ y∈ys,TyT P m e [y]
    | false=>∃ yss,xs=[.lsts (P.cellsOf e) yss]/\yss.length<=maxLen/\∀ ys∈yss,TyT P m e ys
   | _=>False
section
variable {H:Type} {enc:TypeId × Value->H} {P:Program} {W:World} {sp:Nat->Bool} {held:Bool}
theorem qFy {a:Addr} {n:Nat} {cs:List Value} (hn:0<n) (h:W.cells? 0 a n=some cs) :
  ∃ c t z,W.heap[a.block]?=some (.cells c t z)/\a.spot=none/\cs.length=n/\a.off+n<=c.toList.length/\cs=(c.toList.drop a.off).take n:=by
 unfold World.cells? at h
 rw [if_pos (Nat.zero_le _)] at h
 have hl:=mapM_some_length h
 rw [List.length_range] at hl
 have hg:∀ i,i<n->W.cell? (a.add i)=cs[i]?:=fun i hi=>mapM_some_get h i i (by simp [hi])
 have h0:=hg 0 hn
 have ha:a.add 0=a:=by simp [Addr.add]
 rw [ha,List.getElem?_eq_getElem (by omega)] at h0
 unfold World.cell? at h0
 split at h0
 ·rename_i c t z hb
  have hs:a.spot=none:=by
   cases hs:a.spot with
   | none=>rfl
   | some _=>simp [hs] at h0
  have hcell:∀ i,i<n->c[a.off+i]?=cs[i]?:=by
   intro i hi
   have:=hg i hi
   unfold World.cell? at this
   have hblk:(a.add i).block=a.block:=by unfold Addr.add;split <;> rfl
   have hsp:(a.add i).spot=none:=by unfold Addr.add;split <;> first | exact hs | rfl
   have hoff:(a.add i).off=a.off+i:=by unfold Addr.add;split <;> simp_all
   rw [hblk,hb] at this
   simp only [hsp,hoff] at this
   simpa using this
  have hlen:a.off+n<=c.toList.length:=by
   have:=hcell (n - 1) (by omega)
   rw [List.getElem?_eq_getElem (by omega)] at this
   have:=(Array.getElem?_eq_some_iff.1 this).1
   simp
   omega
  refine⟨c,t,z,hb,hs,hl,hlen,?_⟩
  refine List.ext_getElem? fun i=>?_
  by_cases hi:i<n
  ·rw [<- hcell i hi,List.getElem?_take_of_lt hi,List.getElem?_drop]
   simp
  ·rw [List.getElem?_eq_none (by omega),List.getElem?_eq_none (by simp;omega)]
 ·cases h0
def qNj (fz:Fzn) (W:World):Prop:=∀ b c t z,W.heap[b]?=some (.cells c t z)->fz b=some c.toList
def Rd (P:Program) (fz:Fzn) (m:Nat) (t:TypeId) (cs:List Value):Prop:=∃ xs,VPL fz xs cs/\(∀ u∈cs,qA4 u=true)/\TyT P m t xs
theorem qQI {fz:Fzn} {m:Nat} {cs:List Value}:∀ (l:List (TypeId × Nat)) (o:Nat),qGI P l o=some cs.length->(∀ f∈l,Rd P fz m f.1 ((cs.drop f.2).take (P.cellsOf f.1))) ->
  ∃ xs,VPL fz xs (cs.drop o)/\(∀ u∈cs.drop o,qA4 u=true)/\qVi P (TyT P m) l xs
 | [],o,ht,_=>by
  simp only [qGI,Option.some.injEq] at ht
  subst ht
  exact⟨[],by simp [VPL],by simp,rfl⟩
 | f::r,o,ht,hr=>by
  simp only [qGI] at ht
  split at ht
  ·rename_i ho
   have hle:=qMW ht
   obtain⟨ys,h1,h2,h3⟩:=hr f (by simp)
   obtain⟨zs,k1,k2,k3⟩:=qQI r (o+P.cellsOf f.1) ht fun g hg=>hr g (by simp [hg])
   rw [ho] at h1 h2
   have e:cs.drop o=(cs.drop o).take (P.cellsOf f.1)++cs.drop (o+P.cellsOf f.1):=by
    rw [<- List.drop_drop,List.take_append_drop]
   refine⟨ys++zs,?_,?_,ys,zs,rfl,?_,h3,k3⟩
   ·rw [e];exact qEO h1 k1
   ·rw [e];intro u hu;rcases List.mem_append.1 hu with hu | hu
    ·exact h2 u hu
    ·exact k2 u hu
   ·rw [<- qAx h1,List.length_take,List.length_drop];omega
  ·cases ht
theorem qID {t:TypeId} {l:List (TypeId × Nat)} (hp:partsOf P t=some l) {n:Nat} {cs:List Value} {x:DataW H × List MemPlace} (h:DataW.trod enc P W 0 sp held n t cs=some x) :
  ∃ (xs:List (DataW H × List MemPlace)) (k:Nat),n=k+1/\x=(.agg (xs.map (·.1)),xs.flatMap (·.2))/\cs.length=P.cellsOf t/\xs.length=l.length /\
   ∀ (i:Nat) (f:TypeId × Nat),l[i]?=some f->DataW.trod enc P W 0 sp held k f.1 ((cs.drop f.2).take (P.cellsOf f.1))=xs[i]?:=by
 unfold partsOf at hp
 split at hp
 ·rename_i fs hu
  injection hp with hp
  subst hp
  obtain⟨xs,k,h1,h2,h3,h4,h5⟩:=DataW.trod_struct hu h
  refine⟨xs,k,h1,h2,h3,by simpa using h4,fun i f hf=>?_⟩
  rw [List.getElem?_map,Option.map_eq_some_iff] at hf
  obtain⟨g,hg,rfl⟩:=hf
  exact h5 i g (by simpa using hg)
 ·rename_i k' e hu
  injection hp with hp
  subst hp
  obtain⟨xs,k,h1,h2,h3,h4,h5⟩:=DataW.trod_array hu h
  refine⟨xs,k,h1,h2,h3,by simpa using h4,fun i f hf=>?_⟩
  rw [List.getElem?_map,Option.map_eq_some_iff] at hf
  obtain⟨j,hj,rfl⟩:=hf
  have hi:=(List.getElem?_eq_some_iff.1 hj)
  obtain⟨hi,hj⟩:=hi
  simp at hi hj
  subst hj
  exact h5 i hi
 ·cases hp
theorem qKf {l:List (List PV)} (h:∀ cs∈l,cs.length=1):l.flatten.length=l.length/\∀ y∈l.flatten,[y]∈l:=by
 induction l with
 | nil=>simp
 | cons x r ih=>
  have hx:=h x (by simp)
  obtain⟨y,rfl⟩:∃ y,x=[y]:=by
   match x,hx with
   | [y],_=>exact⟨y,rfl⟩
  obtain⟨h1,h2⟩:=ih fun c hc=>h c (by simp [hc])
  refine⟨by simp [h1],fun z hz=>?_⟩
  simp at hz
  rcases hz with rfl | hz
  ·simp
  ·have:=h2 z (by simpa using hz)
   simp [this]
mutual
def qHQ:DataW H->Option (List PV)
 | .lit (.bool b)=>some [.bool b]
 | .lit (.int k n)=>some [.int k n]
 | .lit (.string s)=>some [.str s]
 | .agg ps=>qKh ps
 | _=>none
def qKh:List (DataW H)->Option (List PV)
 | []=>some []
 | d::r=>match qHQ d,qKh r with
  | some xs,some ys=>some (xs++ys)
  | _,_=>none
end
theorem qNL {fz:Fzn} {cs:List Value} {Q:DataW H->List Value->Prop} (hQ:∀ d us xs,Q d us->qHQ d=some xs->VPL fz xs us/\∀ u∈us,qA4 u=true):∀ (l:List (TypeId × Nat)) (ds:List (DataW H)) (o:Nat) (xs:List PV),qGI P l o=some cs.length->ds.length=l.length ->
  (∀ (i:Nat) f d,l[i]?=some f->ds[i]?=some d->Q d ((cs.drop f.2).take (P.cellsOf f.1)))->qKh ds=some xs->VPL fz xs (cs.drop o)/\∀ u∈cs.drop o,qA4 u=true
 | [],ds,o,xs,ht,hl,_,hd=>by
  simp only [qGI,Option.some.injEq] at ht
  subst ht
  obtain rfl:=List.eq_nil_of_length_eq_zero hl
  simp only [qKh,Option.some.injEq] at hd
  subst hd
  simp [VPL]
 | f::r,[],o,xs,ht,hl,_,hd=>by simp at hl
 | f::r,d::ds,o,xs,ht,hl,hr,hd=>by
  simp only [qGI] at ht
  split at ht
  ·rename_i ho
   simp only [qKh] at hd
   split at hd
   ·rename_i ys zs e1 e2
    injection hd with hd
    subst hd
    have h1:=hQ d _ ys (hr 0 f d rfl rfl) e1
    have h2:=qNL hQ r ds (o+P.cellsOf f.1) zs ht (by simpa using hl) (fun i g e hg he=>hr (i+1) g e hg he) e2
    rw [ho] at h1
    have e:cs.drop o=(cs.drop o).take (P.cellsOf f.1)++cs.drop (o+P.cellsOf f.1):=by
     rw [<- List.drop_drop,List.take_append_drop]
    rw [e]
    refine⟨qEO h1.1 h2.1,fun u hu=>?_⟩
    rcases List.mem_append.1 hu with hu | hu
    ·exact h1.2 u hu
    ·exact h2.2 u hu
   ·cases hd
  ·cases ht
theorem qGE {fz:Fzn}:∀ (m:Nat) (t:TypeId) (n:Nat) (cs:List Value) (x:DataW H × List MemPlace) (xs:List PV),qUD P m t=true->DataW.trod enc P W 0 sp held n t cs=some x->qHQ x.1=some xs->VPL fz xs cs/\∀ u∈cs,qA4 u=true
 | 0,_,_,_,_,_,hs,_,_=>by simp [qUD] at hs
 | m+1,t,n,cs,x,xs,hs,h,hd=>by
  have ih:=qGE (fz:=fz) m
  simp only [qUD] at hs
  cases hp:partsOf P t with
  | some l=>
   simp only [hp,Bool.and_eq_true,decide_eq_true_eq,List.all_eq_true] at hs
   obtain⟨ys,k,h1,h2,h3,h4,h5⟩:=qID hp h
   rw [h2] at hd
   simp only [qHQ] at hd
   have:=qNL (fz:=fz) (P:=P) (cs:=cs) (Q:=fun d us=>∀ xs,qHQ d=some xs->VPL fz xs us/\∀ u∈us,qA4 u=true) (fun d us xs hq hx=>hq xs hx) l (ys.map (·.1)) 0 xs (by rw [h3];exact hs.1) (by simpa using h4) (fun i f d hf hd'=>by
    rw [List.getElem?_map,Option.map_eq_some_iff] at hd'
    obtain⟨y,hy,rfl⟩:=hd'
    have e:=h5 i f hf
    rw [hy] at e
    intro xs hx
    exact ih _ _ _ _ xs (hs.2 _ (List.mem_of_getElem? hf)) e hx) hd
   simpa using this
  | none=>
   simp only [hp] at hs
   cases hu:P.underlying t with
   | none=>simp [hu] at hs
   | some d=>
    simp only [hu] at hs
    cases d with
    | bool=>
     obtain⟨b,rfl,rfl⟩:=DataW.trod_bool hu h
     simp only [qHQ,Option.some.injEq] at hd
     subst hd
     exact⟨by simp [VPL,VP],by simp [qA4]⟩
    | int k=>
     obtain⟨b,rfl,rfl,hw⟩:=DataW.trod_int hu h
     simp only [qHQ,Option.some.injEq] at hd
     subst hd
     exact⟨by simp [VPL,VP],by simp [qA4]⟩
    | string=>
     obtain⟨⟨⟨s⟩⟩,rfl,rfl,hw⟩:=DataW.trod_string hu h
     simp only [qHQ,Option.some.injEq] at hd
     subst hd
     exact⟨by simp [VPL,VP],by simp [qA4]⟩
    | slice e=>
     rcases DataW.trod_slice hu h with ⟨rfl,rfl⟩ | ⟨a,len,cap,elems,rest,n',rfl,rfl,rfl,_⟩
     ·simp [qHQ] at hd
     ·simp [qHQ] at hd
    | _=>simp [basic] at hs
end
end Go.Proofs.YtmepdfingcmkmaaGreatDoor.Y
namespace Go.Proofs.YtmepdfingcmkmaaGreatDoor.Y
open Go
theorem mapM_mono {α β:Type} {f g:α->Option β}:∀ {l:List α} {r:List β},(∀ x∈l,∀ y,f x=some y->g x=some y)->l.mapM f=some r->l.mapM g=some r
 | [],r,_,h=>by simpa using h
 | x::l,r,hfg,h=>by
  simp only [List.mapM_cons,Option.bind_eq_bind,Option.bind_eq_some_iff,Option.pure_def,Option.some.injEq] at h ⊢
  obtain⟨y,h1,ys,h2,h3⟩:=h
  exact⟨y,hfg x (by simp) y h1,ys,mapM_mono (fun z hz=>hfg z (by simp [hz])) h2,h3⟩
def Kept (W W':World):Prop:=∀ (b:Nat) (o:Obj),W.heap[b]?=some o->W'.heap[b]?=some o
section
variable {H:Type} {enc:TypeId × Value->H} {P:Program} {W W':World} {sp':Nat->Bool} {held:Bool}
theorem Kept.cell (hk:Kept W W') {a:Addr} {v:Value} (h:W.cell? a=some v):W'.cell? a=some v:=by
 unfold World.cell? at h ⊢
 split at h
 ·rename_i c t z hb
  rw [hk _ _ hb]
  exact h
 ·cases h
theorem Kept.cells (hk:Kept W W') {a:Addr} {n:Nat} {cs:List Value} (h:W.cells? 0 a n=some cs):W'.cells? 0 a n=some cs:=by
 unfold World.cells? at h ⊢
 rw [if_pos (Nat.zero_le _)] at h ⊢
 exact mapM_mono (fun _ _ _ hx=>hk.cell hx) h
def qMO (P:Program) (m:Nat) (t:TypeId) (x:PV):Prop:=match partsOf P t with
 | some _=>∃ xs,x=.agg xs/\TyT P m t xs
 | none=>TyT P m t [x]
def qNI (W:World):Fzn:=fun b=>match W.heap[b]? with
 | some (.cells c _ _)=>some c.toList
 | _=>none
theorem qJT (W:World):qNj (qNI W) W:=fun b c t z h=>by simp [qNI,h]
theorem qQE {b:Nat} {arr:List Value} (h:qNI W b=some arr):∃ c t z,W.heap[b]?=some (.cells c t z)/\arr=c.toList:=by
 unfold qNI at h
 split at h
 ·rename_i c t z hb
  injection h with h
  exact⟨c,t,z,hb,h.symm⟩
 ·cases h
end
def qVs (P:Program) (m:Nat):List (Nat × List PV)->List (String × DataW Unit)->Prop
 | [],_=>True
 | (g,cs)::r,(n,d)::r'=>P.globalNamed n=some g/\(∃ t,(P.globals[g]?).map (·.type)=some t/\qUD P m t=true)/\qHQ d=some cs/\qVs P m r r'
 | _::_,[]=>False
theorem qGG {P:Program} {m:Nat} {W:World}:∀ {gt:List (Nat × List PV)} {laid:List (String × DataW Unit)} {ps:List MemPlace},qVs P m gt laid->DataW.LaidVars P W laid ps->∀ g cs,qSa gt g=some cs->GlobV (qNI W) g cs
 | [],_,_,_,_,g,cs,h=>by simp [qSa] at h
 | (g',cs')::r,[],_,hg,_,g,cs,h=>by simp [qVs] at hg
 | (g',cs')::r,(n,d)::r',ps,hg,hl,g,cs,h=>by
  obtain⟨h1,⟨t,h2,h3⟩,h4,h5⟩:=hg
  obtain⟨g0,t0,cs0,fuel,p,q,k1,k2,k3,k4,k5,k6⟩:=hl
  rw [h1] at k1
  injection k1 with k1
  subst k1
  rw [h2] at k2
  injection k2 with k2
  subst k2
  simp only [qSa] at h
  split at h
  ·rename_i he
   have he:=Nat.eq_of_beq_eq_true he
   subst he
   injection h with h
   subst h
   obtain⟨g1,g2⟩:=qGE (fz:=qNI W) m t fuel _ _ _ h3 k4 h4
   have hb:∃ ty z,W.heap[g']?=some (.cells cs0 ty z):=by
    unfold World.var? at k3
    rw [h1] at k3
    simp only [Option.bind_some] at k3
    split at k3
    ·rename_i c ty z hb
     injection k3 with k3
     subst k3
     exact⟨ty,z,hb⟩
    ·cases k3
   obtain⟨ty,z,hb⟩:=hb
   exact⟨by simp only [VP];exact⟨g',0,cs0.toList,cs0.toList,rfl,qJT W _ _ _ _ hb,g1,[],[],by simp,rfl,g2⟩,cs0.toList,qJT W _ _ _ _ hb,qAx g1⟩
  ·exact qGG h5 k5 g cs h
section
variable {cx:Cx}
end
end Go.Proofs.YtmepdfingcmkmaaGreatDoor.Y
namespace Go.Proofs.YtmepdfingcmkmaaGreatDoor
open Go Y
set_option maxRecDepth 100000
set_option maxHeartbeats 4000000
theorem qE1 {m:Nat} {xs:List PV} (h:TyT Tryz.prog (m+1) 5 xs):∃ b:UInt8,xs=[u8 b]:=by
 have hp:partsOf Tryz.prog 5=none:=by simp [partsOf,Tryz.underlying5]
 simp only [TyT,hp,Tryz.underlying5] at h
 obtain⟨n,rfl,hw⟩:=h
 have:=bounds_u8 hw
 refine⟨UInt8.ofNat n.toNat,?_⟩
 have e:((UInt8.ofNat n.toNat).toNat:Int)=n:=by
  simp
  omega
 rw [u8,e]
theorem qPz {α:Type} {f:α->PV} {P:α->Prop} {ys:List PV} (h:∀ y∈ys,∃ a,y=f a/\P a):∃ zs:List α,ys=zs.map f/\∀ z∈zs,P z:=by
 induction ys with
 | nil=>exact⟨[],rfl,by simp⟩
 | cons y r ih=>
  obtain⟨a,rfl,ha⟩:=h y (by simp)
  obtain⟨zs,rfl,hz⟩:=ih fun z hz=>h z (by simp [hz])
  exact⟨a::zs,rfl,fun z hm=>by rcases List.mem_cons.1 hm with rfl | hm;exact ha;exact hz z hm⟩
theorem qCY {α:Type} {f:α->List PV} {P:α->Prop} {ys:List (List PV)} (h:∀ y∈ys,∃ a,y=f a/\P a):∃ zs:List α,ys=zs.map f/\∀ z∈zs,P z:=by
 induction ys with
 | nil=>exact⟨[],rfl,by simp⟩
 | cons y r ih=>
  obtain⟨a,rfl,ha⟩:=h y (by simp)
  obtain⟨zs,rfl,hz⟩:=ih fun z hz=>h z (by simp [hz])
  exact⟨a::zs,rfl,fun z hm=>by rcases List.mem_cons.1 hm with rfl | hm;exact ha;exact hz z hm⟩
theorem qUV {m:Nat} {xs:List PV} (h:TyT Tryz.prog (m+1) 3 xs):∃ n,xs=[i64 n]/\-9223372036854775808<=n/\n<=9223372036854775807:=by
 have hp:partsOf Tryz.prog 3=none:=by simp [partsOf,Tryz.underlying3]
 simp only [TyT,hp,Tryz.underlying3] at h
 obtain⟨n,rfl,hw⟩:=h
 exact⟨n,rfl,bounds_i64 hw⟩
theorem qUU {m:Nat} {xs:List PV} (h:TyT Tryz.prog (m+1) 9 xs):∃ s,xs=[.str s]/\s.length<=9223372036854775807:=by
 have hp:partsOf Tryz.prog 9=none:=by simp [partsOf,Tryz.underlying9]
 simp only [TyT,hp,Tryz.underlying9] at h
 obtain⟨n,rfl,hl⟩:=h
 exact⟨n,rfl,hl⟩
theorem qOo {m:Nat} {xs:List PV} (h:TyT Tryz.prog (m+1) 4 xs):∃ b,xs=[.bool b]:=by
 have hp:partsOf Tryz.prog 4=none:=by simp [partsOf,Tryz.underlying4]
 simp only [TyT,hp,Tryz.underlying4] at h
 exact h
end Go.Proofs.YtmepdfingcmkmaaGreatDoor
namespace Go.Proofs.YtmepdfingcmkmaaGreatDoor.Y
open Go
def okT (P:Program) (S:List TypeId) (t:TypeId):Bool:=match partsOf P t with
 | some l=>decide (qGI P l 0=some (P.cellsOf t)) && l.all fun f=>qBP f.1 S
 | none=>match P.underlying t with
  | some (.slice e)=>decide (0<P.cellsOf e) && qBP e S
  | some d=>basic d
  | none=>false
def qDd (P:Program) (S:List TypeId):Bool:=S.all (okT P S)
theorem qIe {n:Nat}:∀ {l:List Nat},qBP n l=true->n∈l
 | [],h=>by simp [qBP] at h
 | m::r,h=>by
  rw [qBP] at h
  split at h
  ·rename_i e
   rw [Nat.eq_of_beq_eq_true e];exact List.mem_cons_self ..
  ·exact List.mem_cons_of_mem _ (qIe h)
theorem qFx {P:Program} {S:List TypeId} {t:TypeId} (hS:qDd P S=true) (h:qBP t S=true):okT P S t=true:=List.all_eq_true.1 hS _ (qIe h)
def qSA (P:Program):List TypeId->List PV->Prop
 | [],xs=>xs=[]
 | t::ts,xs=>∃ x r,xs=x::r/\(∃ m,qMO P m t x)/\qSA P ts r
theorem qLA {P:Program} {p q:TypeId->List PV->Prop} (h:∀ t xs,p t xs->q t xs):∀ {l:List (TypeId × Nat)} {xs:List PV},qVi P p l xs->qVi P q l xs
 | [],_,hx=>hx
 | f::r,xs,⟨ys,zs,e,h1,h2,h3⟩=>⟨ys,zs,e,h1,h _ _ h2,qLA h h3⟩
theorem qQs {P:Program}:∀ (m:Nat) (t:TypeId) (xs:List PV),TyT P m t xs->TyT P (m+1) t xs
 | 0,_,_,h=>h.elim
 | m+1,t,xs,h=>by
  have ih:=qQs (P:=P) m
  cases hp:partsOf P t with
  | some l=>
   simp only [TyT,hp] at h ⊢
   exact qLA ih h
  | none=>
   cases hu:P.underlying t with
   | none=>simp only [TyT,hp,hu] at h
   | some d=>
    cases d with
    | bool=>simp only [TyT,hp,hu] at h ⊢;exact h
    | int k=>simp only [TyT,hp,hu] at h ⊢;exact h
    | string=>simp only [TyT,hp,hu] at h ⊢;exact h
    | slice e=>
     simp only [TyT,hp,hu] at h ⊢
     cases hb:Nat.beq (P.cellsOf e) 1 with
     | true=>
      simp only [hb] at h ⊢
      obtain⟨ys,h1,h2,h3⟩:=h
      exact⟨ys,h1,h2,fun y hy=>ih _ _ (h3 y hy)⟩
     | false=>
      simp only [hb] at h ⊢
      obtain⟨ys,h1,h2,h3⟩:=h
      exact⟨ys,h1,h2,fun y hy=>ih _ _ (h3 y hy)⟩
    | _=>simp only [TyT,hp,hu] at h
theorem qEt {P:Program} {m:Nat} {t:TypeId} {x:PV} (h:qMO P m t x):∀ k,qMO P (m+k) t x
 | 0=>h
 | k+1=>by
  have ih:=qEt h k
  unfold qMO at ih ⊢
  split at ih
  ·rename_i hp
   obtain⟨xs,e,hx⟩:=ih
   exact⟨xs,e,qQs _ _ _ hx⟩
  ·exact qQs _ _ _ ih
section
variable {H:Type} {enc:TypeId × Value->H} {P:Program} {W:World} {sp:Nat->Bool} {held:Bool}
theorem qES {fz:Fzn} (hfz:qNj fz W) {S:List TypeId} (hS:qDd P S=true):∀ (n:Nat) (t:TypeId) (cs:List Value) (x:DataW H × List MemPlace),qBP t S=true->DataW.trod enc P W 0 sp held n t cs=some x->Rd P fz n t cs
 | 0,_,_,_,_,h=>by simp [DataW.trod] at h
 | m+1,t,cs,x,hs,h=>by
  have ih:=qES hfz hS m
  have hs:=qFx hS hs
  simp only [okT] at hs
  cases hp:partsOf P t with
  | some l=>
   simp only [hp,Bool.and_eq_true,decide_eq_true_eq,List.all_eq_true] at hs
   obtain⟨xs,k,h1,h2,h3,h4,h5⟩:=qID hp h
   obtain rfl:m=k:=by omega
   obtain⟨ys,g1,g2,g3⟩:=qQI (fz:=fz) (m:=m) (cs:=cs) l 0 (by rw [h3];exact hs.1) fun f hf=>by
    obtain⟨i,hi,rfl⟩:=List.getElem_of_mem hf
    have:=h5 i _ (List.getElem?_eq_getElem hi)
    rw [List.getElem?_eq_getElem (by omega)] at this
    exact ih _ _ _ (hs.2 _ hf) this
   exact⟨ys,by simpa using g1,by simpa using g2,by simp only [TyT,hp];exact g3⟩
  | none=>
   simp only [hp] at hs
   cases hu:P.underlying t with
   | none=>simp [hu] at hs
   | some d=>
    simp only [hu] at hs
    cases d with
    | bool=>
     obtain⟨b,rfl,_⟩:=DataW.trod_bool hu h
     exact⟨[.bool b],by simp [VPL,VP],by simp [qA4],by simp [TyT,hp,hu]⟩
    | int k=>
     obtain⟨b,rfl,_,hw⟩:=DataW.trod_int hu h
     exact⟨[.int k b],by simp [VPL,VP],by simp [qA4],by simp [TyT,hp,hu,hw]⟩
    | string=>
     obtain⟨⟨⟨s⟩⟩,rfl,_,hw⟩:=DataW.trod_string hu h
     exact⟨[.str s],by simp [VPL,VP],by simp [qA4],by simp only [TyT,hp,hu];exact⟨s,rfl,hw⟩⟩
    | slice e=>
     simp only [Bool.and_eq_true,decide_eq_true_eq] at hs
     obtain⟨hs0,hse⟩:=hs
     have fin:∀ (v:Value) (len:Nat) (yss:List (List PV)),len<=maxLen->yss.length=len->(∀ ys∈yss,ys.length=P.cellsOf e/\TyT P m e ys)->qA4 v=true ->
       (yss=[]->∃ a c,v=.slice a 0 c)->(yss ≠ []->∃ b o c arr us,v=.slice (some ⟨b,o,none⟩) len c/\len<=c/\fz b=some arr/\qMM fz (P.cellsOf e) yss us/\Seg arr o us)->Rd P fz (m+1) t [v]:=by
      intro v len yss hml hlen hty hpl hnil hcons
      by_cases h1:P.cellsOf e=1
      ·have hfl:=qKf (l:=yss) fun c hc=>by rw [(hty c hc).1,h1]
       refine⟨[.lst yss.flatten],?_,by simpa using hpl,?_⟩
       ·simp only [VPL]
        refine⟨v,[],rfl,?_,rfl⟩
        simp only [VP]
        by_cases hy:yss=[]
        ·exact .inl ⟨by simp [hy],hnil hy⟩
        ·obtain⟨b,o,c,arr,us,k1,k2,k3,k4,k5⟩:=hcons hy
         exact .inr ⟨b,o,c,arr,us,by rw [hfl.1,hlen];exact k1,by rw [hfl.1,hlen];exact k2,k3,(qBe.1 k4).1,k5⟩
       ·simp only [TyT,hp,hu,h1]
        exact⟨_,rfl,by rw [hfl.1,hlen];exact hml,fun y hy=>(hty _ (hfl.2 y hy)).2⟩
      ·refine⟨[.lsts (P.cellsOf e) yss],?_,by simpa using hpl,?_⟩
       ·simp only [VPL]
        refine⟨v,[],rfl,?_,rfl⟩
        simp only [VP]
        by_cases hy:yss=[]
        ·exact .inl ⟨hy,hnil hy⟩
        ·obtain⟨b,o,c,arr,us,k1,k2,k3,k4,k5⟩:=hcons hy
         exact .inr ⟨b,o,c,arr,us,by rw [hlen];exact k1,by rw [hlen];exact k2,k3,k4,k5⟩
       ·have hb:Nat.beq (P.cellsOf e) 1=false:=qFN h1
        simp only [TyT,hp,hu,hb]
        exact⟨_,rfl,by rw [hlen];exact hml,fun y hy=>(hty _ hy).2⟩
     rcases DataW.trod_slice hu h with ⟨rfl,_⟩ | ⟨a,len,cap,elems,rest,n',hn',rfl,_,_,hlc,hcm,hel,hE,_,_⟩
     ·exact fin _ 0 [] (by simp [maxLen]) rfl (by simp) rfl (fun _=>⟨none,0,rfl⟩) (by simp)
     ·obtain rfl:m=n':=by omega
      have hcs:∀ i,i<len->∃ cs',W.cells? 0 (a.add (i * P.cellsOf e)) (P.cellsOf e)=some cs'/\Rd P fz m e cs':=by
       intro i hi
       have:=hE i hi
       rw [List.getElem?_eq_getElem (by omega),Option.bind_eq_some_iff] at this
       obtain⟨cs',h1,h2⟩:=this
       exact⟨cs',h1,ih _ _ _ hse h2⟩
      by_cases hl0:len=0
      ·subst hl0
       exact fin _ 0 [] (by simp [maxLen]) rfl (by simp) rfl (fun _=>⟨_,_,rfl⟩) (by simp)
      ·obtain⟨cs0,c1,_⟩:=hcs 0 (by omega)
       have ha:a.add (0 * P.cellsOf e)=a:=by simp [Addr.add]
       rw [ha] at c1
       obtain⟨c,tt,z,hb,hsp,_,_,_⟩:=qFy hs0 c1
       have key:∀ k,k<=len->∃ yss us,yss.length=k/\qMM fz (P.cellsOf e) yss us/\(∀ u∈us,qA4 u=true)/\(∀ ys∈yss,ys.length=P.cellsOf e/\TyT P m e ys)/\(k ≠ 0->a.off+k * P.cellsOf e<=c.toList.length)/\us=(c.toList.drop a.off).take (k * P.cellsOf e):=by
        intro k
        induction k with
        | zero=>intro _;exact⟨[],[],rfl,by simp [qMM],by simp,by simp,by simp,by simp⟩
        | succ k ihk=>
         intro hk
         obtain⟨yss,us,k1,k2,k3,k4,k5,k6⟩:=ihk (by omega)
         obtain⟨cs',d1,ys,d2,d3,d4⟩:=hcs k (by omega)
         obtain⟨c',tt',z',e1,e2,e3,e4,e5⟩:=qFy hs0 d1
         have hblk:(a.add (k * P.cellsOf e)).block=a.block:=by unfold Addr.add;split <;> rfl
         have hoff:(a.add (k * P.cellsOf e)).off=a.off+k * P.cellsOf e:=by unfold Addr.add;split <;> simp_all
         rw [hblk,hb] at e1
         simp only [Option.some.injEq,Obj.cells.injEq] at e1
         obtain⟨rfl,_,_⟩:=e1
         rw [hoff] at e4 e5
         have hys:ys.length=P.cellsOf e:=by rw [<- qAx d2,e3]
         have hf:=qBe.1 k2
         refine⟨yss++[ys],us++cs',by simp [k1],qBe.2 ⟨?_,?_⟩,?_,?_,fun _=>by rw [Nat.succ_mul];omega,?_⟩
         ·simpa using qEO hf.1 d2
         ·intro q hq;rcases List.mem_append.1 hq with hq | hq
          ·exact hf.2 q hq
          ·simp at hq;subst hq;exact hys
         ·intro u hu;rcases List.mem_append.1 hu with hu | hu
          ·exact k3 u hu
          ·exact d3 u hu
         ·intro q hq;rcases List.mem_append.1 hq with hq | hq
          ·exact k4 q hq
          ·simp at hq;subst hq;exact⟨hys,d4⟩
         ·rw [k6,e5,Nat.succ_mul,List.take_add,List.drop_drop]
       obtain⟨yss,us,k1,k2,k3,k4,k5,k6⟩:=key len (Nat.le_refl _)
       have k5:=k5 hl0
       have hne:yss ≠ []:=by intro e;subst e;simp at k1;omega
       refine fin _ len yss (by omega) k1 k4 rfl (fun e=>absurd e hne) fun _=>⟨a.block,a.off,cap,c.toList,us,?_,hlc,hfz _ _ _ _ hb,k2,?_⟩
       ·obtain⟨ab,ao,asp⟩:=a;simp only [] at hsp;subst hsp;rfl
       ·refine⟨c.toList.take a.off,c.toList.drop (a.off+len * P.cellsOf e),?_,?_,k3⟩
        ·rw [k6,List.append_assoc,<- List.drop_drop,List.take_append_drop,List.take_append_drop]
        ·rw [List.length_take];omega
    | _=>simp [basic] at hs
end
section
variable {H:Type} {enc:TypeId × Value->H} {P:Program} {W W':World} {sp':Nat->Bool} {held:Bool}
theorem qHz (hk:Kept W W') (hsp:∀ b,b<W.heap.size->sp' b=true) {S:List TypeId} (hS:qDd P S=true):∀ (n:Nat) (t:TypeId) (cs:List Value) (x:DataW H × List MemPlace),qBP t S=true->DataW.trod enc P W 0 (fun _=>true) held n t cs=some x->DataW.trod enc P W' 0 sp' held n t cs=some x
 | 0,t,cs,x,hs,h=>by simp [DataW.trod] at h
 | n+1,t,cs,x,hs,h=>by
  have ih:=qHz hk hsp hS n
  have hs:=qFx hS hs
  simp only [okT] at hs
  cases hu:P.underlying t with
  | none=>
   have hp:partsOf P t=none:=by simp [partsOf,hu]
   simp [hp,hu] at hs
  | some d=>
   cases d with
   | struct fs=>
    have hp:partsOf P t=some (fs.toList.map fun f=>(f.type,f.offset)):=by simp [partsOf,hu]
    simp only [hp,Bool.and_eq_true,List.all_eq_true] at hs
    unfold DataW.trod at h ⊢
    rw [hu] at h ⊢
    simp only [] at h ⊢
    split at h
    ·rename_i hl
     rw [if_pos hl]
     rw [Option.map_eq_some_iff] at h ⊢
     obtain⟨xs,h1,h2⟩:=h
     exact⟨xs,mapM_mono (fun f hf y hy=>ih _ _ _ (hs.2 (f.type,f.offset) (List.mem_map_of_mem hf)) hy) h1,h2⟩
    ·cases h
   | array k e=>
    have hp:partsOf P t=some ((List.range k).map fun i=>(e,i * P.cellsOf e)):=by simp [partsOf,hu]
    simp only [hp,Bool.and_eq_true,List.all_eq_true] at hs
    unfold DataW.trod at h ⊢
    rw [hu] at h ⊢
    simp only [] at h ⊢
    split at h
    ·rename_i hl
     rw [if_pos hl]
     rw [Option.map_eq_some_iff] at h ⊢
     obtain⟨xs,h1,h2⟩:=h
     exact⟨xs,mapM_mono (fun i hi y hy=>ih _ _ _ (hs.2 (e,i * P.cellsOf e) (List.mem_map_of_mem hi)) hy) h1,h2⟩
    ·cases h
   | bool=>
    obtain⟨b,rfl,rfl⟩:=DataW.trod_bool hu h
    unfold DataW.trod;rw [hu]
   | int k=>
    obtain⟨b,rfl,rfl,hw⟩:=DataW.trod_int hu h
    unfold DataW.trod;rw [hu];simp [hw]
   | string=>
    obtain⟨s,rfl,rfl,hw⟩:=DataW.trod_string hu h
    unfold DataW.trod;rw [hu];simp [hw]
   | slice e=>
    have hp:partsOf P t=none:=by simp [partsOf,hu]
    simp only [hp,hu,Bool.and_eq_true,decide_eq_true_eq] at hs
    rcases DataW.trod_slice hu h with ⟨rfl,rfl⟩ | ⟨a,len,cap,_,_,_,_,rfl,_⟩
    ·unfold DataW.trod;rw [hu];rfl
    unfold DataW.trod at h ⊢
    rw [hu] at h ⊢
    simp only [if_true] at h ⊢
    split at h
    rotate_left
    ·cases h
    rename_i hc
    rw [if_pos hc]
    rw [Option.bind_eq_some_iff] at h ⊢
    obtain⟨elems,h1,h2⟩:=h
    rw [Option.map_eq_some_iff] at h2
    obtain⟨rest,h2,h3⟩:=h2
    have el:∀ i y,(W.cells? 0 (a.add (i * P.cellsOf e)) (P.cellsOf e)).bind (DataW.trod enc P W 0 (fun _=>true) held n e)=some y->(W'.cells? 0 (a.add (i * P.cellsOf e)) (P.cellsOf e)).bind (DataW.trod enc P W' 0 sp' held n e)=some y:=by
     intro i y hy
     rw [Option.bind_eq_some_iff] at hy ⊢
     obtain⟨cs',g1,g2⟩:=hy
     exact⟨cs',hk.cells g1,ih _ _ _ hs.2 g2⟩
    refine⟨elems,mapM_mono (fun i _ y hy=>el i y hy) h1,?_⟩
    rw [Option.map_eq_some_iff]
    refine⟨rest,?_,h3⟩
    by_cases hd:cap - len=0
    ·rw [hd] at h2 ⊢
     simp at h2
     subst h2
     cases sp' a.block <;> simp
    ·have hb:a.block<W.heap.size:=by
      have hl:=mapM_some_length h2
      rw [List.length_range] at hl
      have:=mapM_some_get h2 0 0 (by rw [List.getElem?_eq_getElem (by simp;omega)];simp)
      rw [List.getElem?_eq_getElem (by omega),Option.bind_eq_some_iff] at this
      obtain⟨cs',g1,_⟩:=this
      obtain⟨c,t',z,g3,_⟩:=qFy hs.1 g1
      have hblk:(a.add ((len+0) * P.cellsOf e)).block=a.block:=by unfold Addr.add;split <;> rfl
      rw [hblk] at g3
      exact(Array.getElem?_eq_some_iff.1 g3).1
     rw [if_pos (hsp _ hb)]
     exact mapM_mono (fun i _ y hy=>el (len+i) y hy) h2
   | _=>
    have hp:partsOf P t=none:=by simp [partsOf,hu]
    simp [hp,hu,basic] at hs
theorem qE2 (hk:Kept W W') (hsp:∀ b,b<W.heap.size->sp' b=true) {S:List TypeId} (hS:qDd P S=true):∀ {ts:List TypeId} {vs:List Value} {ds:List (DataW H)} {ps:List MemPlace},ts.all (fun t=>qBP t S)=true->DataW.TrodAll enc P W 0 (fun _=>true) held ts vs ds ps->DataW.TrodAll enc P W' 0 sp' held ts vs ds ps
 | [],[],[],ps,_,h=>h
 | t::ts,v::vs,d::ds,ps,hs,h=>by
  simp only [List.all_cons,Bool.and_eq_true] at hs
  obtain⟨p,q,⟨fuel,h1⟩,h2,h3⟩:=h
  exact⟨p,q,⟨fuel,qHz hk hsp hS _ _ _ _ hs.1 h1⟩,qE2 hk hsp hS hs.2 h2,h3⟩
 | [],[],_::_,ps,_,h=>by simp [DataW.TrodAll] at h
 | [],_::_,_,ps,_,h=>by simp [DataW.TrodAll] at h
 | _::_,[],_,ps,_,h=>by simp [DataW.TrodAll] at h
 | _::_,_::_,[],ps,_,h=>by simp [DataW.TrodAll] at h
theorem qTw {S:List TypeId} (hS:qDd P S=true) {base:Nat} {t:TypeId} {v:Value} {d:DataW H} {ps:List MemPlace} (hs:qBP t S=true) (hval:Value.okWide P W .any base t v) (h:DataW.Trod enc P W 0 (fun _=>true) true t v d ps):∃ x,VP (qNI W) x v/\∃ m,qMO P m t x:=by
 obtain⟨fuel,h⟩:=h
 obtain⟨xs,h1,h2,h3⟩:=qES (qJT W) hS fuel t _ _ hs h
 unfold Value.okWide at hval
 cases hp:partsOf P t with
 | some l=>
  have:∃ cs,v=.agg cs:=by
   unfold partsOf at hp
   split at hp
   ·rename_i fs hu;simp only [hu] at hval;obtain⟨cs,h,_⟩:=hval;exact⟨cs,h⟩
   ·rename_i k e hu;simp only [hu] at hval;obtain⟨cs,h,_⟩:=hval;exact⟨cs,h⟩
   ·cases hp
  obtain⟨cs,rfl⟩:=this
  exact⟨.agg xs,by simp only [VP];exact⟨cs,rfl,h1⟩,fuel,by simp only [qMO,hp];exact⟨xs,rfl,h3⟩⟩
 | none=>
  have hv:v.cells=#[v]:=by
   have hs:=qFx hS hs
   ·simp only [okT,hp] at hs
    cases hu:P.underlying t with
    | none=>simp [hu] at hs
    | some d=>
     simp only [hu] at hs hval
     cases d with
     | struct fs=>simp [partsOf,hu] at hp
     | array k e=>simp [partsOf,hu] at hp
     | bool=>cases v <;> simp_all [Cell.okWide,Cell.ok,Value.cells]
     | int k=>cases v <;> simp_all [Cell.okWide,Cell.ok,Value.cells]
     | string=>cases v <;> simp_all [Cell.okWide,Cell.ok,Value.cells]
     | slice e=>cases v <;> simp_all [Cell.okWide,Cell.ok,Value.cells]
     | _=>simp [basic] at hs
  rw [hv] at h1
  obtain⟨x,rfl,h4⟩:∃ x,xs=[x]/\VP (qNI W) x v:=by
   match xs,h1 with
   | [],h1=>simp [VPL] at h1
   | x::r,h1=>
    simp only [VPL] at h1
    obtain⟨u,us,e,g1,g2⟩:=h1
    simp only [List.cons.injEq] at e
    obtain⟨rfl,rfl⟩:=e
    match r,g2 with
    | [],_=>exact⟨x,rfl,g1⟩
    | y::r,g2=>simp [VPL] at g2
  exact⟨x,h4,fuel,by simp only [qMO,hp];exact h3⟩
theorem qJi {S:List TypeId} (hS:qDd P S=true) {base:Nat}:∀ {ts:List TypeId} {vs:List Value} {ds:List (DataW H)} {ps:List MemPlace},ts.all (fun t=>qBP t S)=true->(∀ (j:Nat) t v,ts[j]?=some t->vs[j]?=some v->Value.okWide P W .any base t v)->DataW.TrodAll enc P W 0 (fun _=>true) true ts vs ds ps ->
  ∃ xs,VPL (qNI W) xs vs/\qSA P ts xs/\ds.length=ts.length
 | [],[],[],ps,_,_,_=>⟨[],by simp [VPL],rfl,rfl⟩
 | t::ts,v::vs,d::ds,ps,hs,hv,h=>by
  simp only [List.all_cons,Bool.and_eq_true] at hs
  obtain⟨p,q,h1,h2,h3⟩:=h
  obtain⟨x,g1,g2⟩:=qTw hS hs.1 (hv 0 t v rfl rfl) h1
  obtain⟨xs,k1,k2,k3⟩:=qJi hS hs.2 (fun j t v ht hv'=>hv (j+1) t v ht hv') h2
  exact⟨x::xs,by simp only [VPL];exact⟨v,vs,rfl,g1,k1⟩,⟨x,xs,rfl,g2,k2⟩,by simp [k3]⟩
 | [],[],_::_,ps,_,_,h=>by simp [DataW.TrodAll] at h
 | [],_::_,_,ps,_,_,h=>by simp [DataW.TrodAll] at h
 | _::_,[],_,ps,_,_,h=>by simp [DataW.TrodAll] at h
 | _::_,_::_,[],ps,_,_,h=>by simp [DataW.TrodAll] at h
end
section
variable {cx:Cx}
theorem qHs {S:List TypeId} (hS:qDd cx.P S=true) {H:Type} {enc:TypeId × Value->H} {W:World} {f:FuncId} {fn:Func} {c:Code} {base:Nat} {args:Array Value} {ds:List (DataW H)} {ps:List MemPlace}
  (hf : cx.P.funcs[f]? = some fn) (hname : (fn.name == "runtime.NumGoroutine") = false) (hb : fn.body = some c) (hs : fn.params.toList.all (fun t => qBP t S) = true)
  (hpure:∀ xs,qSA cx.P fn.params.toList xs->Pure cx f xs (·=.ret [.bool true]))
  (hval:∀ (j:Nat) t v,fn.params[j]?=some t->args[j]?=some v->Value.okWide cx.P W .any base t v)
  (hA:DataW.TrodAll enc cx.P W 0 (fun _=>true) true fn.params.toList args.toList ds ps)
  (hglob:∀ g cs,qSa cx.gt g=some cs->GlobV (qNI W) g cs) :
  Calls cx.P f args W fun e W'=>e=.returned (.bool true)/\W'.os=W.os/\W'.output=W.output/\∀ k,k<W.heap.size->W'.heap[k]?=W.heap[k]?:=by
 obtain⟨xs,h1,h2,_⟩:=qJi hS hs (fun j t v ht hv=>hval j t v (by simpa using ht) (by simpa using hv)) hA
 have hR:R cx ⟨fun _=>none,qNI W⟩ ⟨0,[]⟩ W:=by
  refine⟨hglob,fun _ _=>rfl,fun b arr hb=>?_,fun n o hn=>by simp [qAe] at hn,fun n o q hn=>by simp [qAe] at hn,fun n o m p q q' hn=>by simp [qAe] at hn⟩
  obtain⟨c,t,z,g1,rfl⟩:=qQE hb
  exact⟨t,z,g1⟩
 have key:∀ e w',Post cx ⟨fun _=>none,qNI W⟩ ⟨0,[]⟩ W (qNh (·=.ret [.bool true])) e w'->e=.returned (.bool true)/\w'.os=W.os/\w'.output=W.output/\∀ k,k<W.heap.size->w'.heap[k]?=W.heap[k]?:=by
  intro e w' hP
  obtain⟨r,Γ',hq,_,hE,_,hT,_⟩:=qFA hR hP
  subst hq
  obtain⟨v',rfl,hv⟩:=hE
  simp only [VR,VP] at hv
  subst hv
  exact⟨rfl,hT.os,hT.output,fun k hk=>hT.kept k hk qEi⟩
 have hrun:=qGu hf hname hb args W
 rcases hpure xs h2 ⟨fun _=>none,qNI W⟩ W args.toList hR (qA8.2 h1) with ⟨_,h4⟩ | ⟨v',w',h4,_⟩
 ·exact h4.mono key
 ·rw [hrun] at h4
  injection h4 with h4
  cases h4
theorem qJC {S:List TypeId} (hS:qDd cx.P S=true) {H:Type} {enc:TypeId × Value->H} {W W':World} {fn:Func} {s:ChangeSpec} {bt:TypeId} {apart fresh handsOn:Bool} {args:Array Value} {ds gs:List (DataW H)} {before:List MemPlace}
  (hs:fn.params.toList.all (fun t=>qBP t S)=true) (hvars:s.vars=[]) (hres:fn.resultTypes=#[bt]) (hbt:cx.P.underlying bt=some .bool)
  (hfn:∀ ds:List (DataW H),ds.length=fn.params.toList.length->s.fn H ds={ results:=[.lit (.bool true)],args:=ds })
  (hW:DataW.Whole enc cx.P fn.params.toList s.vars apart W args.toList ds gs before) (hlen:ds.length=fn.params.toList.length)
  (hos:W'.os=W.os) (hout:W'.output=W.output) (hkept:∀ k,k<W.heap.size->W'.heap[k]?=W.heap[k]?) :
  s.post enc cx.P fn apart fresh handsOn false W args (.bool true) W':=by
 have hk:Kept W W':=fun b o hb=>by rw [hkept b (Array.getElem?_eq_some_iff.1 hb).1];exact hb
 have hW':=hW
 obtain⟨p,q,h1,h2,_,_,_⟩:=hW'
 rw [hvars] at h2
 obtain⟨rfl,rfl⟩:=Go.ChangeShapes.trodVars_none h2
 have e:s.fn H (ds++[])={ results:=[.lit (.bool true)],args:=ds }:=by rw [List.append_nil];exact hfn ds hlen
 refine⟨ds,[],before,[],p,[],hW,?_,?_,?_,?_,fun h=>by cases h⟩
 ·rw [e,hres]
  exact Go.ChangeShapes.trodAll_mk1 (Go.RowKit.shut_bool hbt true)
 ·rw [e]
  exact qE2 hk (fun b hb=>by simpa using hb) hS hs h1
 ·rw [e,hvars]
  rfl
 ·refine⟨hos,hout,fun i hi=>?_⟩
  rw [hkept i hi]
  have:=Array.getElem?_eq_getElem hi
  rw [this]
  cases W.heap[i] <;> simp
end
end Go.Proofs.YtmepdfingcmkmaaGreatDoor.Y
namespace Go.Proofs.YtmepdfingcmkmaaGreatDoor
open Go Y
set_option maxRecDepth 100000
set_option maxHeartbeats 4000000
theorem qOw:∀ {m:Nat} {xs:List PV},TyT Tryz.prog m 5 xs->∃ b:UInt8,xs=[u8 b]
 | 0,_,h=>h.elim
 | _+1,_,h=>qE1 h
theorem qET:∀ {m:Nat} {xs:List PV},TyT Tryz.prog m 3 xs->∃ n,xs=[i64 n]/\-9223372036854775808<=n/\n<=9223372036854775807
 | 0,_,h=>h.elim
 | _+1,_,h=>qUV h
theorem qJt:∀ {m:Nat} {xs:List PV},TyT Tryz.prog m 9 xs->∃ s,xs=[.str s]/\s.length<=9223372036854775807
 | 0,_,h=>h.elim
 | _+1,_,h=>qUU h
theorem qOy:∀ {m:Nat} {xs:List PV},TyT Tryz.prog m 28 xs->∃ l:List Int,xs=[ints l]/\l.length<=9223372036854775807
 | 0,_,h=>h.elim
 | m+1,xs,h=>by
  have hp:partsOf Tryz.prog 28=none:=by simp [partsOf,Tryz.underlying28]
  have hc:Tryz.prog.cellsOf 3=1:=by kernel_rfl
  rw [TyT] at h
  simp only [hp,Tryz.underlying28,hc] at h
  obtain⟨ys,rfl,hl,hy⟩:=h
  obtain⟨l,rfl,_⟩:=qPz (f:=i64) (P:=fun _=>True) fun y hy'=>by
   obtain⟨b,hb,_⟩:=qET (hy y hy')
   simp at hb
   exact⟨b,hb,trivial⟩
  exact⟨l,rfl,by rw [List.length_map] at hl;exact hl⟩
theorem qOx:∀ {m:Nat} {xs:List PV},TyT Tryz.prog m qQt xs->∃ r:Rf,xs=r.cells/\BigR r
 | 0,_,h=>h.elim
 | m+1,xs,h=>by
  have hp:partsOf Tryz.prog qQt=some [(9,0),(3,1),(9,2),(3,3)]:=by kernel_rfl
  rw [TyT] at h
  simp only [hp] at h
  obtain⟨x1,_,rfl,_,h1,x2,_,rfl,_,h2,x3,_,rfl,_,h3,x4,_,rfl,_,h4,rfl⟩:=h
  obtain⟨a,rfl,ha⟩:=qJt h1
  obtain⟨b,rfl,_⟩:=qET h2
  obtain⟨c,rfl,hc⟩:=qJt h3
  obtain⟨d,rfl,_⟩:=qET h4
  exact⟨⟨a,b,c,d⟩,rfl,ha,hc⟩
theorem qSz:∀ {m:Nat} {xs:List PV},TyT Tryz.prog m 35 xs->∃ l:List Rf,xs=[qBy l]/\l.length<=9223372036854775807/\∀ r∈l,BigR r
 | 0,_,h=>h.elim
 | m+1,xs,h=>by
  have hp:partsOf Tryz.prog 35=none:=by simp [partsOf,Tryz.underlying35]
  have hc:Tryz.prog.cellsOf qQt=4:=by kernel_rfl
  rw [TyT] at h
  simp only [hp,Tryz.underlying35,hc] at h
  obtain⟨ys,rfl,hn,hy⟩:=h
  obtain⟨l,rfl,hl⟩:=qCY (f:=Rf.cells) (P:=BigR) fun y hy'=>qOx (hy y hy')
  rw [List.length_map] at hn
  exact⟨l,rfl,hn,hl⟩
theorem qNW:∀ {l:List Cd},(∀ c∈l,qC8 c)->qHu l
 | [],_=>by simp only [qHu]
 | c::l,h=>by
  simp only [qHu]
  exact⟨h c (List.mem_cons_self ..),qNW fun x hx=>h x (List.mem_cons_of_mem _ hx)⟩
theorem qLH:∀ (m:Nat) {xs:List PV},TyT Tryz.prog m qK6 xs->∃ c:Cd,xs=c.cells/\qC8 c
 | 0,_,h=>h.elim
 | 1,xs,h=>by
  have hp:partsOf Tryz.prog qK6=some [(3,0),(3,1),(3,2),(3,3),(qQt,4),(28,8),(29,9)]:=by kernel_rfl
  rw [TyT] at h
  simp only [hp] at h
  obtain⟨x1,_,rfl,_,h1,_⟩:=h
  exact h1.elim
 | m+2,xs,h=>by
  have hp:partsOf Tryz.prog qK6=some [(3,0),(3,1),(3,2),(3,3),(qQt,4),(28,8),(29,9)]:=by kernel_rfl
  rw [TyT] at h
  simp only [hp] at h
  obtain⟨x1,_,rfl,_,h1,x2,_,rfl,_,h2,x3,_,rfl,_,h3,x4,_,rfl,_,h4,x5,_,rfl,_,h5,x6,_,rfl,_,h6,x7,_,rfl,_,h7,rfl⟩:=h
  obtain⟨a,rfl,_⟩:=qET h1
  obtain⟨b,rfl,_⟩:=qET h2
  obtain⟨c,rfl,_⟩:=qET h3
  obtain⟨d,rfl,_⟩:=qET h4
  obtain⟨r,rfl,hr⟩:=qOx h5
  obtain⟨s,rfl,hs⟩:=qOy h6
  have hp2:partsOf Tryz.prog 29=none:=by simp [partsOf,Tryz.underlying29]
  have hc2:Tryz.prog.cellsOf qK6=10:=by kernel_rfl
  rw [TyT] at h7
  simp only [hp2,Tryz.underlying29,hc2] at h7
  obtain⟨ys,rfl,hn,hy⟩:=h7
  obtain⟨l,rfl,hl⟩:=qCY (f:=Cd.cells) (P:=qC8) fun y hy'=>qLH m (hy y hy')
  rw [List.length_map] at hn
  refine⟨.mk a b c d r s l,by rw [Cd.cells,qBN];rfl,?_⟩
  simp only [qC8]
  exact⟨hr,hs,hn,qNW hl⟩
theorem qS1:∀ {m:Nat} {xs:List PV},TyT Tryz.prog m qHe xs->∃ c:Cs,xs=c.cells/\qC8 c.cond/\c.nums.length<=9223372036854775807
 | 0,_,h=>h.elim
 | m+1,xs,h=>by
  have hp:partsOf Tryz.prog qHe=some [(qK6,0),(28,10)]:=by kernel_rfl
  rw [TyT] at h
  simp only [hp] at h
  obtain⟨x1,_,rfl,_,h1,x2,_,rfl,_,h2,rfl⟩:=h
  obtain⟨c,rfl,hc⟩:=qLH _ h1
  obtain⟨s,rfl,hs⟩:=qOy h2
  exact⟨⟨c,s⟩,rfl,hc,hs⟩
theorem qOz:∀ {m:Nat} {xs:List PV},TyT Tryz.prog m 34 xs->∃ l:List Cs,xs=[css l]/\BigL l
 | 0,_,h=>h.elim
 | m+1,xs,h=>by
  have hp:partsOf Tryz.prog 34=none:=by simp [partsOf,Tryz.underlying34]
  have hc:Tryz.prog.cellsOf qHe=11:=by kernel_rfl
  rw [TyT] at h
  simp only [hp,Tryz.underlying34,hc] at h
  obtain⟨ys,rfl,hn,hy⟩:=h
  obtain⟨l,rfl,hl⟩:=qCY (f:=Cs.cells) (P:=fun c=>qC8 c.cond/\c.nums.length<=9223372036854775807) fun y hy'=>qS1 (hy y hy')
  rw [List.length_map] at hn
  exact⟨l,rfl,hn,fun c hc=>(hl c hc).1,fun c hc=>(hl c hc).2⟩
theorem qS0:∀ {m:Nat} {xs:List PV},TyT Tryz.prog m qHt xs->∃ d:De,xs=d.cells/\BigD d
 | 0,_,h=>h.elim
 | m+1,xs,h=>by
  have hp:partsOf Tryz.prog qHt=some [(3,0),(3,1),(9,2),(9,3),(35,4),(34,5)]:=by kernel_rfl
  rw [TyT] at h
  simp only [hp] at h
  obtain⟨x1,_,rfl,_,h1,x2,_,rfl,_,h2,x3,_,rfl,_,h3,x4,_,rfl,_,h4,x5,_,rfl,_,h5,x6,_,rfl,_,h6,rfl⟩:=h
  obtain⟨a,rfl,_⟩:=qET h1
  obtain⟨b,rfl,_⟩:=qET h2
  obtain⟨c,rfl,hc⟩:=qJt h3
  obtain⟨d,rfl,hd⟩:=qJt h4
  obtain⟨l,rfl,hl,hr⟩:=qSz h5
  obtain⟨k,rfl,hk⟩:=qOz h6
  exact⟨⟨a,b,c,d,l,k⟩,rfl,hc,hd,hl,hr,hk⟩
theorem qRB:∀ {m:Nat} {xs:List PV},TyT Tryz.prog m 38 xs->∃ l:List De,xs=[des l]/\BigP l
 | 0,_,h=>h.elim
 | m+1,xs,h=>by
  have hp:partsOf Tryz.prog 38=none:=by simp [partsOf,Tryz.underlying38]
  have hc:Tryz.prog.cellsOf qHt=6:=by kernel_rfl
  rw [TyT] at h
  simp only [hp,Tryz.underlying38,hc] at h
  obtain⟨ys,rfl,hn,hy⟩:=h
  obtain⟨l,rfl,hl⟩:=qCY (f:=De.cells) (P:=BigD) fun y hy'=>qS0 (hy y hy')
  rw [List.length_map] at hn
  exact⟨l,rfl,hn,hl⟩
theorem qOQ {m:Nat} {x:PV} (h:qMO Tryz.prog m 40 x):∃ ds:List De,x=qCs ds/\BigP ds:=by
 have hp:partsOf Tryz.prog 40=some [(38,0)]:=by kernel_rfl
 simp only [qMO,hp] at h
 obtain⟨xs,rfl,h⟩:=h
 cases m with
 | zero=>exact h.elim
 | succ m=>
  rw [TyT] at h
  simp only [hp] at h
  obtain⟨x1,_,rfl,_,h1,rfl⟩:=h
  obtain⟨l,rfl,hl⟩:=qRB h1
  exact⟨l,rfl,hl⟩
structure Be where
 what:UInt8
 place:UInt8
 cse:UInt8
 n:Int
 name:List UInt8
 ref:Rf
 cond:Cd
abbrev Be.cells (b:Be):List PV:=[u8 b.what,u8 b.place,u8 b.cse,i64 b.n, .str b.name]++(b.ref.cells++b.cond.cells)
structure Be.ok (b:Be):Prop where
 n:-9223372036854775808<=b.n/\b.n<=9223372036854775807
 name:qLD b.name
 ref:BigR b.ref
 cond:qC8 b.cond
theorem qIl {m:Nat} {x:PV} (h:qMO Tryz.prog m 56 x):∃ b:Be,x=.agg b.cells/\b.ok:=by
 have hp:partsOf Tryz.prog 56=some [(5,0),(5,1),(5,2),(3,3),(9,4),(qQt,5),(qK6,9)]:=by kernel_rfl
 simp only [qMO,hp] at h
 obtain⟨xs,rfl,h⟩:=h
 cases m with
 | zero=>exact h.elim
 | succ m=>
  rw [TyT] at h
  simp only [hp] at h
  obtain⟨x1,_,rfl,_,h1,x2,_,rfl,_,h2,x3,_,rfl,_,h3,x4,_,rfl,_,h4,x5,_,rfl,_,h5,x6,_,rfl,_,h6,x7,_,rfl,_,h7,rfl⟩:=h
  obtain⟨a,rfl⟩:=qOw h1
  obtain⟨b,rfl⟩:=qOw h2
  obtain⟨c,rfl⟩:=qOw h3
  obtain⟨n,rfl,hn⟩:=qET h4
  obtain⟨s,rfl,hs⟩:=qJt h5
  obtain⟨r,rfl,hr⟩:=qOx h6
  obtain⟨cd,rfl,hcd⟩:=qLH _ h7
  exact⟨⟨a,b,c,n,s,r,cd⟩,by simp [Be.cells],hn,hs,hr,hcd⟩
set_option maxHeartbeats 40000000
structure Small (d:Nat) (c:Cd) (n:Nat):Prop where
 pos:1<=n
 valid:∀ left,n<=left->qAg d c left=some (left - n)
 big:qC8 c
 len:(spW true (qBL c)).length<=240 * n
theorem qRh {op n rel val:Int} {r:Rf} {st:List Int} (hb:qAT op n rel val r st=true) (hs:st.length<=4):(qJN op n rel val r st).length<=21:=by
 unfold qAT at hb
 unfold qJN
 by_cases c6:op=6
 ·rw [if_neg (by omega),if_neg (by omega),if_pos c6] at hb
  simp only [Bool.and_eq_true,decide_eq_true_eq] at hb
  have hr:=qDS hb.1.1.1.1.1.1
  rw [if_pos c6]
  simp only [List.length_append,List.length_cons,List.length_nil];omega
 ·rw [if_neg c6]
  by_cases c5:op=5
  ·rw [if_neg (by omega),if_pos c5] at hb
   simp only [Bool.and_eq_true,decide_eq_true_eq] at hb
   obtain⟨⟨⟨⟨b1,b2⟩,b3⟩,b4⟩,b5⟩:=hb
   rw [if_pos c5]
   have hr:=qDS b1
   have hset:=qH5 b5
   have hs:=qIx (f:=fun n=>[qFV n]) (b:=1) (l:=st) fun a ha=>⟨qAM (qC2 (hset.2.1 a ha)) qAu,by simp⟩
   simp only [List.length_append,List.length_cons,List.length_nil];omega
  ·rw [if_neg c5]
   by_cases c1:op=1∨op=2∨op=3∨op=4
   ·rw [if_pos c1] at hb
    simp only [Bool.and_eq_true,decide_eq_true_eq] at hb
    have hr:=qDS hb.1.1.1.1
    simp only [List.length_append,List.length_cons,List.length_nil];omega
   ·rw [if_neg c1,if_neg c5,if_neg c6] at hb
    cases hb
theorem qMl {r:Rf} (h:qBg r=true):BigR r:=by
 obtain⟨nm,m,pl,n⟩:=r
 rw [qBg,Bool.and_eq_true] at h
 have h1:=qM0 h.1
 refine⟨by show nm.length<=_;have h1:nm.length<=10:=h1;omega,?_⟩
 have h2:=h.2
 simp only [] at h2
 show pl.length<=_
 split at h2
 ·simp only [Bool.and_eq_true,decide_eq_true_eq] at h2
  rw [h2.1];simp
 ·split at h2
  ·simp only [Bool.and_eq_true] at h2
   have:=qM0 h2.1
   omega
  ·split at h2
   ·simp only [Bool.and_eq_true,decide_eq_true_eq] at h2
    rw [h2.1];simp
   ·cases h2
theorem qP2 {op n rel val:Int} {r:Rf} {st:List Int} (hb:qAT op n rel val r st=true):qBg r=true:=(qHG hb).1
theorem qBV {op n rel val:Int} {r:Rf} {st:List Int} (h7:¬ op=7) (h8:¬ op=8) (h9:¬ op=9) (hb:qAT op n rel val r st=true) (hs:st.length<=4) (d:Nat):Small (d+1) (.mk op n rel val r st []) 1:=by
 refine⟨Nat.le_refl _,fun left hl=>?_,qEN (qMl (qP2 hb)) (by omega),?_⟩
 ·rw [qAg,if_neg (by omega),if_pos]
  ·rfl
  ·have h0:qAX op=0:=by rw [qAX,if_neg h7,if_neg (by omega)]
   rw [qAW,if_pos h0,hb];rfl
 ·rw [qFu h7 h8 h9]
  have h1:=qRh hb hs
  have h2:=qO6 true (qKV hb).1
  omega
theorem qKU (k:Nat) (p:Int × qCl):(spW true (inT k p)).length<=(spW true p.2).length+4:=by
 unfold inT
 split
 ·show(spW true ([tLP]++(p.2++[tRP]))).length<=_
  rw [qLM,qLM]
  simp [spW]
 ·omega
theorem qJs {d na nb:Nat} {a b:Cd} {op:Int} (ho:op=8∨op=9) (ha:Small d a na) (hb:Small d b nb):Small (d+1) (.mk op 0 0 0 rf0 [] [a,b]) (1+na+nb):=by
 have h1:=ha.pos
 have h2:=hb.pos
 have l1:=ha.len
 have l2:=hb.len
 refine⟨by omega,fun left hl=>?_,qMD ha.big hb.big,?_⟩
 ·rw [qAg,if_neg (by omega),if_pos]
  ·show(do
    let l <- qAg d a (left - 1)
    let l <- qAg d b l
    some l)=_
   rw [ha.valid _ (by omega)]
   show(do
    let l <- qAg d b (left - 1 - na)
    some l)=_
   rw [hb.valid _ (by omega)]
   show some _=some _
   congr 1;omega
  ·rcases ho with rfl | rfl <;> rfl
 ·rcases ho with rfl | rfl
  ·rw [qFw,qLM]
   have k1:=qKU 2 (a.op,qBL a)
   have k2:=qKU 3 (b.op,qBL b)
   simp only [] at k1 k2
   show((spW true (inT 2 (a.op,qBL a)))++spW true ([qOY]++inT 3 (b.op,qBL b))).length<=_
   rw [qLM,List.length_append,List.length_append]
   have k3:(spW true [qOY]).length=4:=rfl
   omega
  ·rw [qFv,qLM]
   have k1:=qKU 1 (a.op,qBL a)
   have k2:=qKU 2 (b.op,qBL b)
   simp only [] at k1 k2
   show((spW true (inT 1 (a.op,qBL a)))++spW true ([tOr]++inT 2 (b.op,qBL b))).length<=_
   rw [qLM,List.length_append,List.length_append]
   have k3:(spW true [tOr]).length=3:=rfl
   omega
theorem qKP {d na:Nat} {a:Cd} (ha:Small d a na):Small (d+1) (.mk 7 0 0 0 rf0 [] [a]) (1+na):=by
 have h1:=ha.pos
 have l1:=ha.len
 refine⟨by omega,fun left hl=>?_,qQg ha.big,?_⟩
 ·rw [qAg,if_neg (by omega),if_pos]
  ·show(do
    let l <- qAg d a (left - 1)
    some l)=_
   rw [ha.valid _ (by omega)]
   show some _=some _
   congr 1;omega
  ·rfl
 ·rw [qHU]
  have k1:=qKU 3 (a.op,qBL a)
  simp only [] at k1
  show(spW true ([qQy]++inT 3 (a.op,qBL a))).length<=_
  rw [qLM,List.length_append]
  have k3:(spW true [qQy]).length=4:=rfl
  omega
def abxy:List UInt8:=[97,98,120,121]
def GrQ (d:Nat) (l:List UInt8) (r:PEnd):Prop:=∃ (c:Cd) (n:Nat) (rest:List UInt8),r=.ret [c.pv, .lst (rest.map u8)]/\Small d c n/\n+2 * rest.length<=2 * l.length+1
def qWW (d:Nat):Prop:=∀ (p:Nat) (l:List UInt8),p+d=9->l.length<=1000->Pure cx 58 [.lst (l.map u8),i64 p] (GrQ d l)
def GrN (d:Nat) (l:List UInt8) (r:PEnd):Prop:=∃ (y z:PV) (c:Cd) (n:Nat) (rest:List UInt8),r=.ret [y,z]/\NilD y c.pv/\NilD z (.lst (rest.map u8))/\Small d c n/\n+2 * rest.length<=2 * l.length+1
theorem qTY {d:Nat} {l:List UInt8} {g:FuncId} {args:List PV} (h:Pure cx g args (GrN d l)):Pure cx g args (GrQ d l):=
 h.weak fun r hr=>by
  obtain⟨y,z,c,n,rest,rfl,h1,h2,h3,h4⟩:=hr
  exact⟨.ret [c.pv, .lst (rest.map u8)],⟨_,rfl,_,_,rfl,h1,_,_,rfl,h2,rfl⟩,c,n,rest,rfl,h3,h4⟩
theorem qVc:qAk [97]=true:=by decide
theorem qPc:qAk [112]=true:=by decide
theorem qRP {nm:List UInt8} (h:qAk nm=true):qBg ⟨nm,0,[],0⟩=true:=by rw [qBg,h];rfl
theorem qUm {nm:List UInt8} (h:qAk nm=true):qBg ⟨nm,3,[],0⟩=true:=by rw [qBg,h];rfl
theorem qS9 {nm:List UInt8} {n:Int} (h:qAk nm=true) (hn:qB0 n=true):qBg ⟨nm,2,[],n⟩=true:=by
 show(qAk nm && (decide (([]:List UInt8)=[]) && qB0 n))=true
 rw [h,hn];rfl
theorem qTA {nm pl:List UInt8} {n:Int} (h:qAk nm=true) (hp:qAk pl=true) (hn:qB0 n=true):qBg ⟨nm,1,pl,n⟩=true:=by
 show(qAk nm && (qAk pl && qB0 n))=true
 rw [h,hp,hn];rfl
theorem qHH {op n:Int} {r:Rf} (ho:1<=op/\op<=4) (hr:qBg r=true) (hn:qB0 n=true):qAT op n 0 0 r []=true:=by
 unfold qAT
 rw [if_pos (by omega),hr,hn];rfl
theorem qSW {n rel val:Int} {nm:List UInt8} (h:qAk nm=true) (hn:qB0 n=true) (hv:qB0 val=true) (hr:1<=rel/\rel<=4):qAT 6 n rel val ⟨nm,3,[],0⟩ []=true:=by
 unfold qAT
 rw [if_neg (by decide),if_neg (by decide),if_pos rfl,qUm h,hn,hv,decide_eq_true hr.1,decide_eq_true hr.2];rfl
theorem qM6 {r:Rf} {st:List Int} (hr:qBg r=true) (hs:qGp st=true):qAT 5 0 0 0 r st=true:=by
 unfold qAT
 rw [if_neg (by decide),if_pos rfl,hr,hs];rfl
abbrev otG:OT:=(.pure 0 (.pure 1 (.pure 2 (.pure 3 (.pure 4 (.pure 5 (.pure 6 (.pure 7 (.eff 8 [] (.pure 9 .fin) .nil)))))))))
theorem qJz:∀ j,j<4->qGp (([0,1,2,9999]:List Int).drop j)=true:=by decide
theorem qWS:∀ j,j<4->qAk ((abxy.drop j).take (j+1 - j))=true:=by decide
theorem qOA (v k:Nat) (hv:v<256):qB0 ((v / k:Nat):Int)=true:=qCv (Int.natCast_nonneg _) (Int.le_trans (Int.ofNat_le.2 (Nat.div_le_self v k)) (by omega))
theorem qIR (v a k:Nat) (hv:v<256):qB0 ((v / a % k:Nat):Int)=true:=qCv (Int.natCast_nonneg _) (Int.le_trans (Int.ofNat_le.2 (Nat.le_trans (Nat.mod_le (v / a) k) (Nat.div_le_self v a))) (by omega))
theorem qCg (rf:Rf) (L:List Int) (j:Nat):NilD (.agg [i64 5,i64 0,i64 0,i64 0, .str rf.name,i64 rf.mode, .str rf.plate,i64 rf.n, .lst ((L.map i64).drop j), .nils]) (Cd.mk 5 0 0 0 rf (L.drop j) []).pv:=by
 rw [<- List.map_drop]
 exact qRd 5 0 0 0 rf (L.drop j)
theorem qPj (op:Int) (l:List Cd):NilD (.agg [i64 op,i64 0,i64 0,i64 0, .str [],i64 0, .str [],i64 0, .nils, .lsts 10 (qBG l)]) (Cd.mk op 0 0 0 rf0 [] l).pv:=by
 show NilD _ (.agg [i64 op,i64 0,i64 0,i64 0, .str [],i64 0, .str [],i64 0, .lst [], .lsts 10 (qBG l)])
 simp only [NilD,NilDL]
 exact⟨_,rfl,_,_,rfl,rfl,_,_,rfl,rfl,_,_,rfl,rfl,_,_,rfl,rfl,_,_,rfl,rfl,_,_,rfl,rfl,_,_,rfl,rfl,_,_,rfl,rfl,_,_,rfl, .inr (.inl rfl),_,_,rfl,⟨_,rfl,NilDLL.refl _⟩,rfl⟩
def nmV (v:Nat):List UInt8:=(abxy.drop (v / 16 % 4)).take (v / 16 % 4+1 - v / 16 % 4)
abbrev l9:List Int:=[0,1,2,9999]
theorem grow_step (d:Nat) (ih:d ≠ 0->qWW d):qWW (d+1):=by
 intro p l hp hl
 refine qTY ?_
 have hl':(l.map u8).length=l.length:=List.length_map ..
 refine qAB Tryz.func58 rfl rfl rfl ?_
 by_cases h0:l=[]
 ·subst h0
  refine And.intro (fun _=>?_) (fun h=>absurd rfl h)
  refine qFt (.agg [i64 1,i64 0,i64 0,i64 0, .str [97],i64 0, .str [],i64 0, .nils, .nils]) .nils rfl rfl (.inl rfl) ?_
  exact⟨_,_, .mk 1 0 0 0 ⟨[97],0,[],0⟩ [] [],1,[],rfl,qAq 1 0 0 0 ⟨[97],0,[],0⟩,by simp [NilD],qBV (by decide) (by decide) (by decide) (qHH (by decide) (qRP qVc) (by decide)) (by decide) d,by simp⟩
 obtain⟨b,t,rfl⟩:∃ b t,l=b::t:=by
  cases l with
  | nil=>exact absurd rfl h0
  | cons b t=>exact⟨b,t,rfl⟩
 refine And.intro (fun h=>absurd (show(((b::t).map u8).length:Int)=0 from h) (by rw [hl'];simp only [List.length_cons];omega)) (fun _=>?_)
 have hv:b.toNat<256:=b.toNat_lt
 obtain⟨v,hve⟩:∃ v,v=b.toNat:=⟨_,rfl⟩
 rw [<- hve] at hv
 simp only [List.length_cons] at hl
 refine⟨_,⟨by decide,u8 b,rfl,rfl⟩,?_⟩
 refine⟨(v:Int),by rw [hve];exact w6z,?_⟩
 clear hve
 refine⟨by show(0:Int)<=1/\(1:Int)<=(((b::t).map u8).length:Nat);rw [hl'];simp only [List.length_cons];omega,?_⟩
 have e8:(v:Int).tmod 8=((v % 8:Nat):Int):=rfl
 have e4:((v / 16:Nat):Int).tmod 4=((v / 16 % 4:Nat):Int):=rfl
 have hn:qAk (nmV v)=true:=qWS _ (by omega)
 refine⟨by decide,((v / 16:Nat):Int),by show _=IntKind.i64.wrap ((v:Int).tdiv 16);rw [show(v:Int).tdiv 16=((v / 16:Nat):Int) from rfl];exact w6z,?_⟩
 refine⟨by decide,?_⟩
 refine⟨by decide,((v / 16:Nat):Int),by show _=IntKind.i64.wrap ((v:Int).tdiv 16);rw [show(v:Int).tdiv 16=((v / 16:Nat):Int) from rfl];exact w6z,?_⟩
 refine⟨by decide,?_⟩
 refine⟨((v / 16 % 4+1:Nat):Int),by show _=IntKind.i64.wrap (((v / 16:Nat):Int).tmod 4+1);rw [e4,Int.natCast_add];exact w6z,?_⟩
 refine⟨by show(0:Int)<=((v / 16:Nat):Int).tmod 4/\((v / 16:Nat):Int).tmod 4<=((v / 16 % 4+1:Nat):Int)/\((v / 16 % 4+1:Nat):Int)<=4;rw [e4];omega,?_⟩
 by_cases c1:p<8
 ·refine And.intro (fun _=>?_) (fun h=>absurd (show(p:Int)<8 by first | (rw [e8];omega) | omega) h)
  refine⟨by decide,?_⟩
  by_cases c2:v % 8<2
  ·refine And.intro (fun _=>?_) (fun h=>absurd (show(v:Int).tmod 8<2 by first | (rw [e8];omega) | omega) h)
   refine⟨((p+1:Nat):Int),by rw [Int.natCast_add];exact w6z,?_⟩
   refine(ih (by omega) (p+1) t (by omega) (by omega)).at fun r hr=>?_
   obtain⟨⟨ao,an,ar,av,af,as',aa⟩,na,t2,rfl,sa,la⟩:=hr
   refine⟨((p+1:Nat):Int),by rw [Int.natCast_add];exact w6z,?_⟩
   refine(ih (by omega) (p+1) t2 (by omega) (by omega)).at fun r hr=>?_
   obtain⟨⟨bo,bn,br,bv,bf,bs,ba⟩,nb,t3,rfl,sb,lb⟩:=hr
   refine⟨by decide,?_⟩
   refine⟨8+((v % 2:Nat):Int),by show _=IntKind.i64.wrap (8+(v:Int).tmod 2);rw [show(v:Int).tmod 2=((v % 2:Nat):Int) from rfl];exact w6z,?_⟩
   refine qFt (.agg [i64 (8+((v % 2:Nat):Int)),i64 0,i64 0,i64 0, .str [],i64 0, .str [],i64 0, .nils, .lsts 10 (qBG [.mk ao an ar av af as' aa, .mk bo bn br bv bf bs ba])]) (.lst (t3.map u8)) rfl ⟨_,rfl,_,_,rfl,rfl,_,_,rfl,rfl,_,_,rfl,rfl,_,_,rfl,rfl,_,_,rfl,rfl,_,_,rfl,rfl,_,_,rfl,rfl,_,_,rfl,rfl,_,_,rfl, .inl rfl,_,_,rfl,⟨_,rfl,Nat.le_refl _,rfl⟩,rfl⟩ rfl ?_
   exact⟨_,_, .mk (8+((v % 2:Nat):Int)) 0 0 0 rf0 [] [.mk ao an ar av af as' aa, .mk bo bn br bv bf bs ba],_,t3,rfl,qPj _ _,NilD.refl _,qJs (by omega) sa sb,by simp only [List.length_cons];omega⟩
  ·refine And.intro (fun h=>absurd (show(v:Int).tmod 8<2 from h) (by first | (rw [e8];omega) | omega)) (fun _=>?_)
   refine And.intro (fun _=>?_) (fun h=>absurd (show(p:Int)<8 by first | (rw [e8];omega) | omega) h)
   refine⟨by decide,?_⟩
   by_cases c3:v % 8=2
   ·refine And.intro (fun _=>?_) (fun h=>absurd (show(v:Int).tmod 8=2 by first | (rw [e8];omega) | omega) h)
    refine⟨((p+1:Nat):Int),by rw [Int.natCast_add];exact w6z,?_⟩
    refine(ih (by omega) (p+1) t (by omega) (by omega)).at fun r hr=>?_
    obtain⟨⟨ao,an,ar,av,af,as',aa⟩,na,t2,rfl,sa,la⟩:=hr
    refine qFt (.agg [i64 7,i64 0,i64 0,i64 0, .str [],i64 0, .str [],i64 0, .nils, .lsts 10 (qBG [.mk ao an ar av af as' aa])]) (.lst (t2.map u8)) rfl ⟨_,rfl,_,_,rfl,rfl,_,_,rfl,rfl,_,_,rfl,rfl,_,_,rfl,rfl,_,_,rfl,rfl,_,_,rfl,rfl,_,_,rfl,rfl,_,_,rfl,rfl,_,_,rfl, .inl rfl,_,_,rfl,⟨_,rfl,Nat.le_refl _,rfl⟩,rfl⟩ rfl ?_
    exact⟨_,_, .mk 7 0 0 0 rf0 [] [.mk ao an ar av af as' aa],_,t2,rfl,qPj 7 _,NilD.refl _,qKP sa,by simp only [List.length_cons];omega⟩
   ·refine And.intro (fun h=>absurd (show(v:Int).tmod 8=2 from h) (by first | (rw [e8];omega) | omega)) (fun _=>?_)
    refine⟨by decide,?_⟩
    by_cases k3:v % 8=3
    ·refine And.intro (fun _=>?_) (fun h=>absurd (show(v:Int).tmod 8=3 by first | (rw [e8];omega) | omega) h)
     refine⟨by decide,((v / 64:Nat):Int),by show _=IntKind.i64.wrap ((v:Int).tdiv 64);rw [show(v:Int).tdiv 64=((v / 64:Nat):Int) from rfl];exact w6z,?_⟩
     refine⟨by decide,((v / 8:Nat):Int),by show _=IntKind.i64.wrap ((v:Int).tdiv 8);rw [show(v:Int).tdiv 8=((v / 8:Nat):Int) from rfl];exact w6z,?_⟩
     refine⟨by decide,?_⟩
     refine⟨1+((v / 8 % 4:Nat):Int),by show _=IntKind.i64.wrap (1+((v / 8:Nat):Int).tmod 4);rw [show((v / 8:Nat):Int).tmod 4=((v / 8 % 4:Nat):Int) from rfl];exact w6z,?_⟩
     refine⟨by decide,((v / 32:Nat):Int),by show _=IntKind.i64.wrap ((v:Int).tdiv 32);rw [show(v:Int).tdiv 32=((v / 32:Nat):Int) from rfl];exact w6z,?_⟩
     refine⟨by decide,?_⟩
     refine qFt (.agg [i64 6,i64 ((v / 32 % 3:Nat):Int),i64 (1+((v / 8 % 4:Nat):Int)),i64 ((v / 64:Nat):Int), .str (nmV v),i64 3, .str [],i64 0, .nils, .nils]) (.lst (t.map u8)) rfl rfl rfl ?_
     exact⟨_,_, .mk 6 ((v / 32 % 3:Nat):Int) (1+((v / 8 % 4:Nat):Int)) ((v / 64:Nat):Int) ⟨nmV v,3,[],0⟩ [] [],1,t,rfl,qAq 6 _ _ _ ⟨nmV v,3,[],0⟩,NilD.refl _,qBV (by decide) (by decide) (by decide) (qSW hn (qIR v 32 3 hv) (qOA v 64 hv) (by omega)) (by decide) d,by simp only [List.length_cons];omega⟩
    refine And.intro (fun h=>absurd (show(v:Int).tmod 8=3 from h) (by first | (rw [e8];omega) | omega)) (fun _=>?_)
    refine⟨by decide,?_⟩
    by_cases k4:v % 8=4
    ·refine And.intro (fun _=>?_) (fun h=>absurd (show(v:Int).tmod 8=4 by first | (rw [e8];omega) | omega) h)
     refine⟨by decide,((v / 32:Nat):Int),by show _=IntKind.i64.wrap ((v:Int).tdiv 32);rw [show(v:Int).tdiv 32=((v / 32:Nat):Int) from rfl];exact w6z,?_⟩
     refine⟨by decide,?_⟩
     refine qAG otG (by kernel_rfl) ?_
     refine⟨by decide,((v / 8:Nat):Int),by show _=IntKind.i64.wrap ((v:Int).tdiv 8);rw [show(v:Int).tdiv 8=((v / 8:Nat):Int) from rfl];exact w6z,?_⟩
     refine⟨by decide,?_⟩
     refine⟨by show(0:Int)<=((v / 8:Nat):Int).tmod 4/\((v / 8:Nat):Int).tmod 4<=4;rw [show((v / 8:Nat):Int).tmod 4=((v / 8 % 4:Nat):Int) from rfl];omega,?_⟩
     refine qFt (.agg [i64 5,i64 0,i64 0,i64 0, .str (nmV v),i64 1, .str [112],i64 ((v / 32 % 3:Nat):Int), .lst ((l9.map i64).drop (v / 8 % 4)), .nils]) (.lst (t.map u8)) rfl rfl rfl ?_
     exact⟨_,_, .mk 5 0 0 0 ⟨nmV v,1,[112],((v / 32 % 3:Nat):Int)⟩ (l9.drop (v / 8 % 4)) [],1,t,rfl,qCg ⟨nmV v,1,[112],((v / 32 % 3:Nat):Int)⟩ l9 (v / 8 % 4),NilD.refl _,qBV (by decide) (by decide) (by decide) (qM6 (qTA hn qPc (qIR v 32 3 hv)) (qJz _ (by omega))) (by rw [List.length_drop];show 4 - _<=4;omega) d,by simp only [List.length_cons];omega⟩
    refine And.intro (fun h=>absurd (show(v:Int).tmod 8=4 from h) (by first | (rw [e8];omega) | omega)) (fun _=>?_)
    refine⟨by decide,?_⟩
    by_cases k5:v % 8=5
    ·refine And.intro (fun _=>?_) (fun h=>absurd (show(v:Int).tmod 8=5 by first | (rw [e8];omega) | omega) h)
     refine⟨by decide,((v / 8:Nat):Int),by show _=IntKind.i64.wrap ((v:Int).tdiv 8);rw [show(v:Int).tdiv 8=((v / 8:Nat):Int) from rfl];exact w6z,?_⟩
     refine⟨by decide,?_⟩
     refine⟨by decide,((v / 8:Nat):Int),by show _=IntKind.i64.wrap ((v:Int).tdiv 8);rw [show(v:Int).tdiv 8=((v / 8:Nat):Int) from rfl];exact w6z,?_⟩
     refine⟨by decide,?_⟩
     refine⟨1+((v / 8 % 4:Nat):Int),by show _=IntKind.i64.wrap (1+((v / 8:Nat):Int).tmod 4);rw [show((v / 8:Nat):Int).tmod 4=((v / 8 % 4:Nat):Int) from rfl];exact w6z,?_⟩
     refine⟨by decide,((v / 64:Nat):Int),by show _=IntKind.i64.wrap ((v:Int).tdiv 64);rw [show(v:Int).tdiv 64=((v / 64:Nat):Int) from rfl];exact w6z,?_⟩
     refine qFt (.agg [i64 (1+((v / 8 % 4:Nat):Int)),i64 ((v / 64:Nat):Int),i64 0,i64 0, .str (nmV v),i64 2, .str [],i64 ((v / 8 % 4:Nat):Int), .nils, .nils]) (.lst (t.map u8)) rfl rfl rfl ?_
     exact⟨_,_, .mk (1+((v / 8 % 4:Nat):Int)) ((v / 64:Nat):Int) 0 0 ⟨nmV v,2,[],((v / 8 % 4:Nat):Int)⟩ [] [],1,t,rfl,qAq _ _ 0 0 ⟨nmV v,2,[],((v / 8 % 4:Nat):Int)⟩,NilD.refl _,qBV (by omega) (by omega) (by omega) (qHH (by omega) (qS9 hn (qIR v 8 4 hv)) (qOA v 64 hv)) (by decide) d,by simp only [List.length_cons];omega⟩
    refine And.intro (fun h=>absurd (show(v:Int).tmod 8=5 from h) (by first | (rw [e8];omega) | omega)) (fun _=>?_)
    refine⟨by decide,((v / 8:Nat):Int),by show _=IntKind.i64.wrap ((v:Int).tdiv 8);rw [show(v:Int).tdiv 8=((v / 8:Nat):Int) from rfl];exact w6z,?_⟩
    refine⟨by decide,?_⟩
    refine⟨1+((v / 8 % 4:Nat):Int),by show _=IntKind.i64.wrap (1+((v / 8:Nat):Int).tmod 4);rw [show((v / 8:Nat):Int).tmod 4=((v / 8 % 4:Nat):Int) from rfl];exact w6z,?_⟩
    refine⟨by decide,((v / 64:Nat):Int),by show _=IntKind.i64.wrap ((v:Int).tdiv 64);rw [show(v:Int).tdiv 64=((v / 64:Nat):Int) from rfl];exact w6z,?_⟩
    refine qFt (.agg [i64 (1+((v / 8 % 4:Nat):Int)),i64 ((v / 64:Nat):Int),i64 0,i64 0, .str (nmV v),i64 0, .str [],i64 0, .nils, .nils]) (.lst (t.map u8)) rfl rfl rfl ?_
    exact⟨_,_, .mk (1+((v / 8 % 4:Nat):Int)) ((v / 64:Nat):Int) 0 0 ⟨nmV v,0,[],0⟩ [] [],1,t,rfl,qAq _ _ 0 0 ⟨nmV v,0,[],0⟩,NilD.refl _,qBV (by omega) (by omega) (by omega) (qHH (by omega) (qRP hn) (qOA v 64 hv)) (by decide) d,by simp only [List.length_cons];omega⟩
 ·refine And.intro (fun h=>absurd (show(p:Int)<8 from h) (by first | (rw [e8];omega) | omega)) (fun _=>?_)
  refine And.intro (fun h=>absurd (show(p:Int)<8 from h) (by first | (rw [e8];omega) | omega)) (fun _=>?_)
  refine⟨by decide,?_⟩
  by_cases k3:v % 8=3
  ·refine And.intro (fun _=>?_) (fun h=>absurd (show(v:Int).tmod 8=3 by first | (rw [e8];omega) | omega) h)
   refine⟨by decide,((v / 64:Nat):Int),by show _=IntKind.i64.wrap ((v:Int).tdiv 64);rw [show(v:Int).tdiv 64=((v / 64:Nat):Int) from rfl];exact w6z,?_⟩
   refine⟨by decide,((v / 8:Nat):Int),by show _=IntKind.i64.wrap ((v:Int).tdiv 8);rw [show(v:Int).tdiv 8=((v / 8:Nat):Int) from rfl];exact w6z,?_⟩
   refine⟨by decide,?_⟩
   refine⟨1+((v / 8 % 4:Nat):Int),by show _=IntKind.i64.wrap (1+((v / 8:Nat):Int).tmod 4);rw [show((v / 8:Nat):Int).tmod 4=((v / 8 % 4:Nat):Int) from rfl];exact w6z,?_⟩
   refine⟨by decide,((v / 32:Nat):Int),by show _=IntKind.i64.wrap ((v:Int).tdiv 32);rw [show(v:Int).tdiv 32=((v / 32:Nat):Int) from rfl];exact w6z,?_⟩
   refine⟨by decide,?_⟩
   refine qFt (.agg [i64 6,i64 ((v / 32 % 3:Nat):Int),i64 (1+((v / 8 % 4:Nat):Int)),i64 ((v / 64:Nat):Int), .str (nmV v),i64 3, .str [],i64 0, .nils, .nils]) (.lst (t.map u8)) rfl rfl rfl ?_
   exact⟨_,_, .mk 6 ((v / 32 % 3:Nat):Int) (1+((v / 8 % 4:Nat):Int)) ((v / 64:Nat):Int) ⟨nmV v,3,[],0⟩ [] [],1,t,rfl,qAq 6 _ _ _ ⟨nmV v,3,[],0⟩,NilD.refl _,qBV (by decide) (by decide) (by decide) (qSW hn (qIR v 32 3 hv) (qOA v 64 hv) (by omega)) (by decide) d,by simp only [List.length_cons];omega⟩
  refine And.intro (fun h=>absurd (show(v:Int).tmod 8=3 from h) (by first | (rw [e8];omega) | omega)) (fun _=>?_)
  refine⟨by decide,?_⟩
  by_cases k4:v % 8=4
  ·refine And.intro (fun _=>?_) (fun h=>absurd (show(v:Int).tmod 8=4 by first | (rw [e8];omega) | omega) h)
   refine⟨by decide,((v / 32:Nat):Int),by show _=IntKind.i64.wrap ((v:Int).tdiv 32);rw [show(v:Int).tdiv 32=((v / 32:Nat):Int) from rfl];exact w6z,?_⟩
   refine⟨by decide,?_⟩
   refine qAG otG (by kernel_rfl) ?_
   refine⟨by decide,((v / 8:Nat):Int),by show _=IntKind.i64.wrap ((v:Int).tdiv 8);rw [show(v:Int).tdiv 8=((v / 8:Nat):Int) from rfl];exact w6z,?_⟩
   refine⟨by decide,?_⟩
   refine⟨by show(0:Int)<=((v / 8:Nat):Int).tmod 4/\((v / 8:Nat):Int).tmod 4<=4;rw [show((v / 8:Nat):Int).tmod 4=((v / 8 % 4:Nat):Int) from rfl];omega,?_⟩
   refine qFt (.agg [i64 5,i64 0,i64 0,i64 0, .str (nmV v),i64 1, .str [112],i64 ((v / 32 % 3:Nat):Int), .lst ((l9.map i64).drop (v / 8 % 4)), .nils]) (.lst (t.map u8)) rfl rfl rfl ?_
   exact⟨_,_, .mk 5 0 0 0 ⟨nmV v,1,[112],((v / 32 % 3:Nat):Int)⟩ (l9.drop (v / 8 % 4)) [],1,t,rfl,qCg ⟨nmV v,1,[112],((v / 32 % 3:Nat):Int)⟩ l9 (v / 8 % 4),NilD.refl _,qBV (by decide) (by decide) (by decide) (qM6 (qTA hn qPc (qIR v 32 3 hv)) (qJz _ (by omega))) (by rw [List.length_drop];show 4 - _<=4;omega) d,by simp only [List.length_cons];omega⟩
  refine And.intro (fun h=>absurd (show(v:Int).tmod 8=4 from h) (by first | (rw [e8];omega) | omega)) (fun _=>?_)
  refine⟨by decide,?_⟩
  by_cases k5:v % 8=5
  ·refine And.intro (fun _=>?_) (fun h=>absurd (show(v:Int).tmod 8=5 by first | (rw [e8];omega) | omega) h)
   refine⟨by decide,((v / 8:Nat):Int),by show _=IntKind.i64.wrap ((v:Int).tdiv 8);rw [show(v:Int).tdiv 8=((v / 8:Nat):Int) from rfl];exact w6z,?_⟩
   refine⟨by decide,?_⟩
   refine⟨by decide,((v / 8:Nat):Int),by show _=IntKind.i64.wrap ((v:Int).tdiv 8);rw [show(v:Int).tdiv 8=((v / 8:Nat):Int) from rfl];exact w6z,?_⟩
   refine⟨by decide,?_⟩
   refine⟨1+((v / 8 % 4:Nat):Int),by show _=IntKind.i64.wrap (1+((v / 8:Nat):Int).tmod 4);rw [show((v / 8:Nat):Int).tmod 4=((v / 8 % 4:Nat):Int) from rfl];exact w6z,?_⟩
   refine⟨by decide,((v / 64:Nat):Int),by show _=IntKind.i64.wrap ((v:Int).tdiv 64);rw [show(v:Int).tdiv 64=((v / 64:Nat):Int) from rfl];exact w6z,?_⟩
   refine qFt (.agg [i64 (1+((v / 8 % 4:Nat):Int)),i64 ((v / 64:Nat):Int),i64 0,i64 0, .str (nmV v),i64 2, .str [],i64 ((v / 8 % 4:Nat):Int), .nils, .nils]) (.lst (t.map u8)) rfl rfl rfl ?_
   exact⟨_,_, .mk (1+((v / 8 % 4:Nat):Int)) ((v / 64:Nat):Int) 0 0 ⟨nmV v,2,[],((v / 8 % 4:Nat):Int)⟩ [] [],1,t,rfl,qAq _ _ 0 0 ⟨nmV v,2,[],((v / 8 % 4:Nat):Int)⟩,NilD.refl _,qBV (by omega) (by omega) (by omega) (qHH (by omega) (qS9 hn (qIR v 8 4 hv)) (qOA v 64 hv)) (by decide) d,by simp only [List.length_cons];omega⟩
  refine And.intro (fun h=>absurd (show(v:Int).tmod 8=5 from h) (by first | (rw [e8];omega) | omega)) (fun _=>?_)
  refine⟨by decide,((v / 8:Nat):Int),by show _=IntKind.i64.wrap ((v:Int).tdiv 8);rw [show(v:Int).tdiv 8=((v / 8:Nat):Int) from rfl];exact w6z,?_⟩
  refine⟨by decide,?_⟩
  refine⟨1+((v / 8 % 4:Nat):Int),by show _=IntKind.i64.wrap (1+((v / 8:Nat):Int).tmod 4);rw [show((v / 8:Nat):Int).tmod 4=((v / 8 % 4:Nat):Int) from rfl];exact w6z,?_⟩
  refine⟨by decide,((v / 64:Nat):Int),by show _=IntKind.i64.wrap ((v:Int).tdiv 64);rw [show(v:Int).tdiv 64=((v / 64:Nat):Int) from rfl];exact w6z,?_⟩
  refine qFt (.agg [i64 (1+((v / 8 % 4:Nat):Int)),i64 ((v / 64:Nat):Int),i64 0,i64 0, .str (nmV v),i64 0, .str [],i64 0, .nils, .nils]) (.lst (t.map u8)) rfl rfl rfl ?_
  exact⟨_,_, .mk (1+((v / 8 % 4:Nat):Int)) ((v / 64:Nat):Int) 0 0 ⟨nmV v,0,[],0⟩ [] [],1,t,rfl,qAq _ _ 0 0 ⟨nmV v,0,[],0⟩,NilD.refl _,qBV (by omega) (by omega) (by omega) (qHH (by omega) (qRP hn) (qOA v 64 hv)) (by decide) d,by simp only [List.length_cons];omega⟩
theorem qNG:∀ d,qWW (d+1)
 | 0=>grow_step 0 fun h=>absurd rfl h
 | d+1=>grow_step (d+1) fun _=>qNG d
theorem qUW (l:List UInt8) (hl:l.length<=9223372036854775807):Pure cx 31 [.lst (l.map u8)] fun r=>∃ (c:Cd) (n:Nat),r=.ret [c.pv]/\Small 8 c n/\n<=29:=by
 refine qAB Tryz.func31 rfl rfl rfl ?_
 have hl':(l.map u8).length=l.length:=List.length_map ..
 obtain⟨k,hk⟩:∃ k,k=min l.length 14:=⟨_,rfl⟩
 have em:(if (14:Int)<((l.map u8).length:Nat) then(14:Int) else((l.map u8).length:Nat))=(k:Nat):=by
  rw [hl',hk];split <;> omega
 refine⟨by show(0:Int)<=(if (14:Int)<((l.map u8).length:Nat) then(14:Int) else((l.map u8).length:Nat))/\(if (14:Int)<((l.map u8).length:Nat) then(14:Int) else((l.map u8).length:Nat))<=((l.map u8).length:Nat);rw [em,hl'];omega,?_⟩
 have hg:=qNG 7 1 (l.take k) rfl (by rw [List.length_take];omega)
 have ea:[PV.lst ((l.take k).map u8),i64 ((1:Nat):Int)]=[PV.lst ((l.map u8).take (if (14:Int)<((l.map u8).length:Nat) then(14:Int) else((l.map u8).length:Nat)).toNat),i64 1]:=by
  rw [em,List.map_take];rfl
 rw [ea] at hg
 refine hg.at fun r hr=>?_
 obtain⟨⟨ao,an,ar,av,af,as',aa⟩,n,rest,rfl,hs,hn⟩:=hr
 exact qAF _ rfl rfl ⟨_,n,rfl,hs,by rw [List.length_take] at hn;omega⟩
abbrev qNl (c:Cd):De:=⟨5,0,[],[],[],[⟨c,[1]⟩,⟨cd0,[-1,0]⟩]⟩
set_option maxHeartbeats 4000000
def qWp (t:List UInt8):Nat:=if t=tLP then 1 else 0
def lpP (ws:List Wd):Nat->Nat
 | 0=>0
 | q+1=>lpP ws q+qWp (txt ws q)
def pn (k:Nat) (p:Int × Nat):Nat:=p.2+if lvl p.1<k then 1 else 0
def cpJ (op:Int) (ps:List (Int × Nat)):Nat:=
 if op=9 then pn 1 (ps.getD 0 (0,0))+pn 2 (ps.getD 1 (0,0)) else if op=8 then pn 2 (ps.getD 0 (0,0))+pn 3 (ps.getD 1 (0,0)) else if op=7 then pn 3 (ps.getD 0 (0,0)) else if op=6 then 1 else 0
mutual
def cp:Cd->Nat
 | .mk op _ _ _ _ _ ar=>cpJ op (cpL ar)
def cpL:List Cd->List (Int × Nat)
 | []=>[]
 | c::r=>(c.op,cp c)::cpL r
end
def pin (k:Nat) (c:Cd):Nat:=pn k (c.op,cp c)
structure CLp (ws:List Wd) (F:Nat):Prop where
 cond:∀ {q c q'},qDc ws F q=.inr (c,q')->lpP ws q+pin 1 c<=lpP ws q'
 orr:∀ {d q c q'},orR ws F d q=.inr (c,q')->∀ s,s+pin 1 d<=lpP ws q->s+pin 1 c<=lpP ws q'
 conj:∀ {q c q'},qDL ws F q=.inr (c,q')->lpP ws q+pin 2 c<=lpP ws q'
 andr:∀ {d q c q'},qOc ws F d q=.inr (c,q')->∀ s,s+pin 2 d<=lpP ws q->s+pin 2 c<=lpP ws q'
 neg:∀ {q c q'},qIQ ws F q=.inr (c,q')->lpP ws q+pin 3 c<=lpP ws q'
 test:∀ {q c q'},qGJ ws F q=.inr (c,q')->lpP ws q+pin 4 c<=lpP ws q'
def lpT (x:qCl):Nat:=(x.map qWp).sum
def wgh (t:List UInt8):Int:=if t=tLP then 1 else if t=tRP then -1 else 0
def tot (x:qCl):Int:=(x.map wgh).sum
theorem qOr (x y:qCl):tot (x++y)=tot x+tot y:=by rw [tot,List.map_append,List.sum_append];rfl
structure Bal (x:qCl):Prop where
 all:tot x=0
 pre:∀ n,0<=tot (x.take n)
theorem Bal.app {x y:qCl} (hx:Bal x) (hy:Bal y):Bal (x++y):=by
 refine⟨by rw [qOr,hx.all,hy.all];rfl,fun n=>?_⟩
 rw [List.take_append,qOr]
 have:=hx.pre n
 have:=hy.pre (n - x.length)
 omega
def Pl (t:List UInt8):Prop:=t ≠ tLP/\t ≠ tRP
structure CanP (c:Cd):Prop where
 bal:Bal (qBL c)
 lp:lpT (qBL c)=cp c
def qV4 (x:qCl):List UInt8:=x.flatMap fun t=>t++[32]
set_option maxHeartbeats 40000000
structure WithF (c:Cd):Prop where
 valid:qAt [qNl c]=true
 all:qFT (declT (qNl c))
 num:(declT (qNl c)).length<=1500
 txt:(qQ8 [qNl c]).length<=8000
 len:(qV4 (declT (qNl c))).length<=8000
 can:CanP c
 big:BigP [qNl c]
set_option maxHeartbeats 4000000
def lw:qCl->Nat
 | []=>0
 | x::l=>x.length+lw l
theorem qA2 (t:List UInt8) (x:qCl):lw (t::x)=t.length+lw x:=rfl
theorem qLm:lw []=0:=rfl
theorem qCL:∀ a b:qCl,lw (a++b)=lw a+lw b
 | [],b=>by simp [lw]
 | x::a,b=>by rw [List.cons_append,lw,lw,qCL a b];omega
def nbB (c:UInt8):Bool:=decide (c.toNat ≠ 32) && decide (c.toNat ≠ 10)
def nb (s:List UInt8):Nat:=(s.filter nbB).length
def PLt (p q:Nat × Nat):Prop:=p.1<q.1∨(p.1=q.1/\p.2<q.2)
theorem PLt.trans {p q r:Nat × Nat} (h:PLt p q) (k:PLt q r):PLt p r:=by
 unfold PLt at *;omega
structure WSp (s:List UInt8) (k:Nat) (acc:List Wd):Prop where
 pl:∀ w∈acc,∃ o,o<k/\o<=s.length/\w.line=(at_ s o).1/\w.col=(at_ s o).2
 ne:∀ i j,i<j->j<acc.length->¬ ((wat acc i).line=(wat acc j).line/\(wat acc i).col=(wat acc j).col)
 lw:lw (acc.map Wd.text)<=nb (s.take k)
theorem qIV (n:Int):(qFV n).length<=4:=qQR 4 _
theorem qJL {n:Int} (h:n<=9):(qFV n).length<=1:=by
 rw [qFV,qQS,if_pos (by omega)]
 exact Nat.le_refl _
theorem qLn {α:Type} {f:α->qCl} {b:Nat}:∀ {l:List α},(∀ a∈l,lw (f a)<=b)->lw (l.flatMap f)<=b * l.length
 | [],_=>Nat.zero_le _
 | a::l,h=>by
  have h1:=h a (List.mem_cons_self ..)
  have h2:=qLn (l:=l) fun x hx=>h x (List.mem_cons_of_mem _ hx)
  rw [List.flatMap_cons,qCL,List.length_cons,Nat.mul_succ];omega
theorem qST {α:Type} {f:α->qCl} {b:Nat}:∀ {l:List α},(∀ a∈l,lw (f a)<=b)->lw (qS3 f l)<=(b+1) * l.length
 | [],_=>Nat.zero_le _
 | a::l,h=>by
  have h1:=h a (List.mem_cons_self ..)
  have h2:=qLn (l:=l) (f:=fun b=>qEU::f b) (b:=b+1) fun x hx=>by
   have:=h x (List.mem_cons_of_mem _ hx)
   simp only [qA2,List.length_cons,List.length_nil];omega
  show lw (f a++l.flatMap fun b=>qEU::f b)<=_
  rw [qCL,List.length_cons,Nat.mul_succ];omega
structure RfS (r:Rf):Prop where
 ok:qBg r=true
 nm:r.name.length=1
 pl:r.plate.length<=1
 n:r.n<=9
theorem qTR {r:Rf} (h:r.plate.length<=1) (hn:r.n<=9):lw (qNo r)<=5:=by
 have h1:=qJL hn
 unfold qNo
 split
 ·decide
 ·split
  ·simp only [qA2,qLm,List.length_cons,List.length_nil];omega
  ·split
   ·split <;> simp only [qA2,qLm,List.length_cons,List.length_nil] <;> omega
   ·exact Nat.zero_le _
theorem qSV {r:Rf} (h:RfS r):lw (qQz r)<=6:=by
 have h1:=qTR h.pl h.n
 have h2:=h.nm
 rw [qQz,qA2];omega
theorem qSU (k:Int):(qUG k).length<=2:=by
 unfold qUG
 split
 ·decide
 ·split
  ·decide
  ·split <;> decide
theorem qTS {op n rel val:Int} {r:Rf} {st:List Int} (h:RfS r) (hn:n<=9) (hv:val<=9) (hs:st.length<=2/\∀ a∈st,a<=9):lw (qJN op n rel val r st)<=18:=by
 have h0:=qSV h
 have h1:=qJL hn
 have h2:=qJL hv
 have h3:=qSU rel
 have h4:=qSU op
 have h5:=qST (f:=fun n=>[qFV n]) (b:=1) (l:=st) fun a ha=>by
  have:=qJL (hs.2 a ha)
  simp only [qA2,qLm];omega
 have hs1:=hs.1
 unfold qJN
 split
 ·simp only [qCL,qA2,qLm,List.length_cons,List.length_nil];omega
 ·split
  ·simp only [qCL,qA2,qLm,List.length_cons,List.length_nil];omega
  ·simp only [qCL,qA2,qLm];omega
structure CdS (d:Nat) (c:Cd) (n k:Nat):Prop where
 sm:Small d c n
 wt:lw (qBL c)<=k
theorem CdS.leaf {op n rel val:Int} {r:Rf} {st:List Int} (h7:¬ op=7) (h8:¬ op=8) (h9:¬ op=9) (hb:qAT op n rel val r st=true) (hr:RfS r) (hn:n<=9) (hv:val<=9) (hs:st.length<=2/\∀ a∈st,a<=9) (d:Nat):CdS (d+1) (.mk op n rel val r st []) 1 18:=
 ⟨qBV h7 h8 h9 hb (by have:=hs.1;omega) d,by rw [qFu h7 h8 h9];exact qTS hr hn hv hs⟩
theorem qPv (k:Nat) (p:Int × qCl):lw (inT k p)<=lw p.2+2:=by
 unfold inT
 split
 ·simp only [qCL,qA2,qLm,List.length_cons,List.length_nil];omega
 ·omega
theorem CdS.neg {d n k:Nat} {a:Cd} (ha:CdS d a n k):CdS (d+1) (.mk 7 0 0 0 rf0 [] [a]) (1+n) (k+5):=by
 refine⟨qKP ha.sm,?_⟩
 rw [qHU]
 have h1:=ha.wt
 have h2:=qPv 3 (a.op,qBL a)
 simp only [] at h2
 show lw (qQy::inT 3 (a.op,qBL a))<=_
 rw [qA2]
 simp only [List.length_cons,List.length_nil];omega
theorem CdS.two {d na nb ka kb:Nat} {a b:Cd} {op:Int} (ho:op=8∨op=9) (ha:CdS d a na ka) (hb:CdS d b nb kb):CdS (d+1) (.mk op 0 0 0 rf0 [] [a,b]) (1+na+nb) (ka+kb+7):=by
 refine⟨qJs ho ha.sm hb.sm,?_⟩
 have h1:=ha.wt
 have h2:=hb.wt
 rcases ho with rfl | rfl
 ·rw [qFw]
  have k1:=qPv 2 (a.op,qBL a)
  have k2:=qPv 3 (b.op,qBL b)
  simp only [] at k1 k2
  show lw (inT 2 (a.op,qBL a)++(qOY::inT 3 (b.op,qBL b)))<=_
  rw [qCL,qA2]
  simp only [List.length_cons,List.length_nil];omega
 ·rw [qFv]
  have k1:=qPv 1 (a.op,qBL a)
  have k2:=qPv 2 (b.op,qBL b)
  simp only [] at k1 k2
  show lw (inT 1 (a.op,qBL a)++(tOr::inT 2 (b.op,qBL b)))<=_
  rw [qCL,qA2]
  simp only [List.length_cons,List.length_nil];omega
theorem CdS.le {d n k k':Nat} {a:Cd} (h:CdS d a n k) (hk:k<=k'):CdS d a n k':=⟨h.sm,Nat.le_trans h.wt hk⟩
structure NuS (l:List Int):Prop where
 ok:qCD l=true
 wt:lw (qKK l)<=6
theorem NuS.len {l:List Int} (h:NuS l):l.length<=8:=by
 have:=h.ok
 simp only [qCD,Bool.and_eq_true,decide_eq_true_eq] at this
 exact this.1.2
structure CsS (c:Cs):Prop where
 cd:∃ n,n<=3/\CdS 8 c.cond n 43
 nu:NuS c.nums
structure LsS (c:Cs):Prop where
 cd:c.cond=cd0
 nu:NuS c.nums
theorem qTt:qC8 cd0:=qEN ⟨by decide,by decide⟩ (by decide)
structure RuS (l:List Cs):Prop where
 ok:qBH l=true
 wt:lw (qI1 l)<=166
 big:BigL l
theorem qSL (last:Cs) (hl:LsS last):∀ pre:List Cs,(∀ c∈pre,CsS c)->qBd (pre++[last])=true/\lw (qDf (pre++[last]))<=51 * pre.length+11/\(∀ c∈pre++[last],qC8 c.cond/\c.nums.length<=9223372036854775807)
 | [],_=>by
  refine⟨?_,?_,fun c hc=>?_⟩
  ·show(qCD last.nums && qDr last.cond)=true
   rw [hl.nu.ok,hl.cd];rfl
  ·have:=hl.nu.wt
   show lw (qNs::qDP::qKK last.nums)<=_
   simp only [qA2,List.length_cons,List.length_nil];omega
  ·have:=List.mem_singleton.1 hc
   subst this
   have:=hl.nu.len
   exact⟨by rw [hl.cd];exact qTt,by omega⟩
 | c::pre,h=>by
  obtain⟨h1,h2,h3⟩:=qSL last hl pre fun x hx=>h x (List.mem_cons_of_mem _ hx)
  obtain⟨⟨n,hn,hc⟩,hu⟩:=h c (List.mem_cons_self ..)
  obtain⟨y,t,e⟩:∃ y t,pre++[last]=y::t:=by
   cases pre with
   | nil=>exact⟨_,_,rfl⟩
   | cons a b=>exact⟨_,_,rfl⟩
  rw [e] at h1 h2 h3
  rw [List.cons_append,e]
  refine⟨?_,?_,fun x hx=>?_⟩
  ·rw [qBd,hu.ok,hc.sm.valid 30 (by omega),h1];rfl
  ·have h4:=hc.wt
   have h5:=hu.wt
   rw [qDf]
   simp only [qCL,qA2,List.length_cons,List.length_nil];omega
  ·rcases List.mem_cons.1 hx with rfl | hx
   ·have:=hu.len
    exact⟨hc.sm.big,by omega⟩
   ·exact h3 x hx
theorem qFc {pre:List Cs} {last:Cs} (hp:pre.length<=3) (h:∀ c∈pre,CsS c) (hl:LsS last):RuS (pre++[last]):=by
 obtain⟨h1,h2,h3⟩:=qSL last hl pre h
 have e:(pre++[last]).length=pre.length+1:=by simp
 refine⟨?_,?_,⟨by omega,fun c hc=>(h3 c hc).1,fun c hc=>(h3 c hc).2⟩⟩
 ·rw [qBH,h1,decide_eq_true (by omega),decide_eq_true (by omega)];rfl
 ·rw [qI1,qA2,qCL]
  simp only [qA2,qLm,List.length_cons,List.length_nil];omega
structure DeS (d:De) (k:Nat):Prop where
 ok:qBi d=true
 big:BigD d
 wt:lw (declT d)<=k
theorem qLV {key:List UInt8} {l:List Rf} (hk:key.length<=6) (h:∀ r∈l,RfS r) (hl:l.length<=2):lw (qGz key l)<=20:=by
 unfold qGz
 split
 ·exact Nat.zero_le _
 ·have:=qST (f:=qQz) (b:=6) (l:=l) fun r hr=>qSV (h r hr)
  rw [qA2];omega
theorem qI7 {l:List Rf} (h:∀ r∈l,RfS r):l.all qBg=true:=List.all_eq_true.2 fun r hr=>(h r hr).ok
theorem qLT {l:List Rf} (h:∀ r∈l,RfS r):∀ r∈l,BigR r:=fun r hr=>qMl (h r hr).ok
theorem bS0:qLD []:=qBY
theorem bS1:qLD [112]:=by rw [qLD];simp
theorem bN0:([]:List Rf).length<=9223372036854775807:=by simp
theorem qRo {n:Int} (hn:qB0 n=true):DeS ⟨1,n,[],[],[],[]⟩ 10:=by
 refine⟨?_,⟨bS0,bS0,bN0,fun r hr=>(by cases hr),qFm⟩,?_⟩
 ·rw [qBi,hn];rfl
 ·have:=qIV n
  show lw [qH1,qFV n,qBh]<=_
  simp only [qA2,qLm,List.length_cons,List.length_nil];omega
theorem qRW {n:Int} (hn:qB0 n=true):DeS ⟨2,n,[112],[],[],[]⟩ 12:=by
 refine⟨?_,⟨bS1,bS0,bN0,fun r hr=>(by cases hr),qFm⟩,?_⟩
 ·rw [qBi,hn];rfl
 ·have:=qIV n
  show lw [qH0,[112],tEq,qFV n,qBh]<=_
  simp only [qA2,qLm,List.length_cons,List.length_nil];omega
theorem qKr {n:Int} {nm:List UInt8} {rs:List Rf} (hn:qB0 n=true) (h1:qAk nm=true) (h2:nm.length=1) (hr:∀ r∈rs,RfS r) (hl:rs.length<=2):DeS ⟨4,n,nm,[],rs,[]⟩ 33:=by
 refine⟨?_,⟨by show nm.length<=9223372036854775807;omega,bS0,by show rs.length<=9223372036854775807;omega,qLT hr,qFm⟩,?_⟩
 ·rw [qBi,hn,qI7 hr,decide_eq_true (by show rs.length<=8;omega),qAj,if_neg (by show ¬ (4:Int)=1;decide),if_neg (by show ¬ (4:Int)=2;decide),if_neg (by show ¬ (4:Int)=3;decide),if_pos rfl,h1];rfl
 ·have h3:=qIV n
  have h4:=qLV (key:=qEa) (by decide) hr hl
  show lw (([qFY,nm,qDP,qFV n]++qGz qEa rs)++[qBh])<=_
  simp only [qCL,qA2,qLm,List.length_cons,List.length_nil];omega
theorem qQD {rs:List Rf} {cs:List Cs} (hr:∀ r∈rs,RfS r) (hl:rs.length<=2) (hc:RuS cs):DeS ⟨5,0,[],[],rs,cs⟩ 192:=by
 refine⟨?_,⟨bS0,bS0,by show rs.length<=9223372036854775807;omega,qLT hr,hc.big⟩,?_⟩
 ·rw [qBi,qI7 hr,decide_eq_true (by show rs.length<=8;omega),qAj,if_neg (by show ¬ (5:Int)=1;decide),if_neg (by show ¬ (5:Int)=2;decide),if_neg (by show ¬ (5:Int)=3;decide),if_neg (by show ¬ (5:Int)=4;decide),if_pos rfl,hc.ok];rfl
 ·have h4:=qLV (key:=qEQ) (by decide) hr hl
  have h5:=hc.wt
  show lw ((qNr::(qGz qEQ rs++(tEq::qI1 cs)))++[qBh])<=_
  simp only [qCL,qA2,qLm,List.length_cons,List.length_nil];omega
theorem qPi {n:Int} {nm pl:List UInt8} {rs:List Rf} {cs:List Cs} (hn:qB0 n=true) (h1:qAk nm=true) (h2:nm.length=1) (hp:pl=[]∨pl=[112]) (hr:∀ r∈rs,RfS r) (hl:rs.length<=2) (hc:RuS cs):DeS ⟨3,n,nm,pl,rs,cs⟩ 201:=by
 refine⟨?_,⟨by show nm.length<=9223372036854775807;omega,by rcases hp with rfl | rfl;exact bS0;exact bS1,by show rs.length<=9223372036854775807;omega,qLT hr,hc.big⟩,?_⟩
 ·rw [qBi,hn,qI7 hr,decide_eq_true (by show rs.length<=8;omega),qAj,if_neg (by show ¬ (3:Int)=1;decide),if_neg (by show ¬ (3:Int)=2;decide),if_pos rfl,h1,hc.ok]
  rcases hp with rfl | rfl <;> rfl
 ·have h3:=qIV n
  have h4:=qLV (key:=qEQ) (by decide) hr hl
  have h5:=hc.wt
  have h6:lw (if pl=[] then [] else [tLB,pl,tRB])<=3:=by rcases hp with rfl | rfl <;> decide
  show lw (([qNq,nm]++((if pl=[] then [] else [tLB,pl,tRB])++([qDP,qFV n]++(qGz qEQ rs++(tEq::qI1 cs)))))++[qBh])<=_
  simp only [qCL,qA2,qLm,List.length_cons,List.length_nil];omega
theorem qSB:∀ {x:qCl},qFT x->x.length<=lw x
 | [],_=>Nat.le_refl _
 | t::x,h=>by
  have h1:=(qLG (h t (List.mem_cons_self ..))).1
  have h2:=qSB (x:=x) fun u hu=>h u (List.mem_cons_of_mem _ hu)
  rw [qA2,List.length_cons];omega
theorem qSC:∀ x:qCl,(spW true x).length<=lw x+x.length
 | []=>Nat.le_refl _
 | t::x=>by
  have:=qSC x
  show([32]++(t++spW true x)).length<=_
  simp only [List.length_append,List.length_cons,List.length_nil,qA2];omega
structure PrS (ds:List De) (k:Nat):Prop where
 ok:∀ d∈ds,qBi d=true/\BigD d
 wt:lw (ds.flatMap declT)<=k
theorem PrS.nil:PrS [] 0:=⟨fun d hd=>(by cases hd),Nat.le_refl _⟩
theorem PrS.snoc {ds:List De} {d:De} {k j:Nat} (h:PrS ds k) (hd:DeS d j):PrS (ds++[d]) (k+j):=by
 refine⟨fun x hx=>?_,?_⟩
 ·rcases List.mem_append.1 hx with hx | hx
  ·exact h.ok x hx
  ·rw [List.mem_singleton.1 hx];exact⟨hd.ok,hd.big⟩
 ·have h1:=h.wt
  have h2:=hd.wt
  rw [List.flatMap_append,qCL,List.flatMap_cons,List.flatMap_nil,List.append_nil];omega
theorem PrS.le {ds:List De} {k k':Nat} (h:PrS ds k) (hk:k<=k'):PrS ds k':=⟨h.ok,Nat.le_trans h.wt hk⟩
theorem qOt:∀ ds:List De,(qQ8 ds).length<=lw (ds.flatMap declT)+qVW ds
 | []=>Nat.le_refl _
 | d::ds=>by
  have h1:=qOt ds
  have h2:=qSC (declT d)
  rw [qUY (qTk d),List.length_cons] at h2
  have h3:qVW (d::ds)=(declT d).length+qVW ds:=rfl
  show((spW false (declT d)++[10])++qQ8 ds).length<=_
  rw [List.flatMap_cons,qCL,h3]
  simp only [List.length_append,List.length_cons,List.length_nil];omega
theorem qQT {ds:List De} (h:∀ d∈ds,qBi d=true):qFT (ds.flatMap declT):=fun t ht=>by
 obtain⟨d,hd,ht⟩:=List.mem_flatMap.1 ht
 exact(qQU (h d hd)).1 t ht
structure DrP (ds:List De):Prop where
 valid:qAt ds=true
 big:BigP ds
 txt:(qQ8 ds).length<=2600
 cnt:qVW ds<=1300
 lw:lw (ds.flatMap declT)<=1300
theorem PrS.fin {ds:List De} {k:Nat} (h:PrS ds k) (hl:ds.length<=30) (hk:k<=1300):DrP ds:=by
 have h1:=qOt ds
 have h2:=h.wt
 have h3:=qSB (qQT fun d hd=>(h.ok d hd).1)
 rw [qNM] at h3
 refine⟨?_,⟨by omega,fun d hd=>(h.ok d hd).2⟩,by omega,by omega,by omega⟩
 rw [qAt,decide_eq_true hl,List.all_eq_true.2 fun d hd=>(h.ok d hd).1];rfl
structure Pc where
 w:UInt8
 o:UInt8
 n:UInt8
 m:UInt8
 x:UInt8
 y:UInt8
 z:UInt8
abbrev Pc.cells (p:Pc):List PV:=[u8 p.w,u8 p.o,u8 p.n,u8 p.m,u8 p.x,u8 p.y,u8 p.z]
def wO3 (a b c:UInt8):AObj:=⟨24,false, .bx [.p (u8 a), .p (u8 b), .p (u8 c)]⟩
structure Wgt (l:List Int) (k:Nat):Prop where
 len:l.length=k
 bd:∀ x∈l,0<=x/\x<=12
theorem Wgt.snoc {l:List Int} {k:Nat} {v:Int} (h:Wgt l k) (h1:0<=v) (h2:v<=12):Wgt (l++[v]) (k+1):=by
 refine⟨by rw [List.length_append,h.len];rfl,fun x hx=>?_⟩
 rcases List.mem_append.1 hx with hx | hx
 ·exact h.bd x hx
 ·rw [List.mem_singleton.1 hx];exact⟨h1,h2⟩
theorem qU9 {n:Int} (h:0<=n/\n<=12):lw (qQ0 n)<=2:=by
 rw [qQ0,if_neg (by omega),qA2,qLm,qFV,qQS]
 split
 ·exact Nat.le_succ_of_le (Nat.le_refl _)
 ·rw [qQS,if_pos (by omega)]
  exact Nat.le_refl _
theorem Wgt.nu {l:List Int} {k:Nat} (h:Wgt l k) (hk:k=2∨k=3):NuS l:=by
 have h1:=h.len
 refine⟨?_,?_⟩
 ·rw [qCD,decide_eq_true (by omega),decide_eq_true (by omega),List.all_eq_true.2]
  ·rfl
  ·intro x hx
   have:=h.bd x hx
   rw [qHi,decide_eq_true (by omega),decide_eq_true (by omega)];rfl
 ·have:=qLn (f:=qQ0) (b:=2) (l:=l) fun x hx=>qU9 (h.bd x hx)
  rw [qKK];omega
theorem qOs (n:Nat) {g:Int} (h:0<=g):0<=(n:Int).tmod (g+1)/\(n:Int).tmod (g+1)<=g:=by
 have h1:=Int.tmod_nonneg (g+1) (Int.natCast_nonneg n)
 have h2:=Int.tmod_lt_of_pos (n:Int) (show 0<g+1 by omega)
 omega
theorem qEy (a b c:UInt8) (k:Nat) (g:Int) (hk:k=2∨k=3) (hg:0<=g/\g<=12):Pure cx 60 [.agg [u8 a,u8 b,u8 c],i64 (k:Int),i64 g] fun r=>∃ l,r=.ret [ints l]/\Wgt l k:=by
 refine qAB Tryz.func60 rfl rfl rfl ?_
 refine⟨Nat × List Int × Int,fun x=>[(1, .p (i64 (k:Int))),(3, .ptr 0 0 0),(7, .sl 1 1 0 x.2.1.length),(8, .p (i64 x.2.2)),(9, .p (i64 x.1))],fun x=>⟨2,[(1,iO x.2.1),(0,wO3 a b c)]⟩,fun x=>x.1+1<=k/\Wgt x.2.1 x.1/\0<=x.2.2/\x.2.2<=12,fun x=>k - x.1,?_,?_⟩
 ·exact⟨(0,[],g),⟨by show 0+1<=k;omega,⟨rfl,fun x hx=>by cases hx⟩,hg⟩,qAA [] [] [(1,1)] rfl (sk) (sk) rfl⟩
 rintro⟨i,acc,g⟩ ⟨k1,k2,k3,k4⟩
 simp only [] at k1 k2 k3 k4
 clear hg
 by_cases i2:i+1=k
 ·refine⟨(i:Int),by rw [<- i2];rw [show((i+1:Nat):Int) - 1=(i:Int) by omega];exact w6z,?_⟩
  refine And.intro (fun h=>absurd (show(i:Int)<(i:Int) from h) (by omega)) (fun _=>?_)
  refine⟨by show 0+1<=1;omega,[i64 g],rfl,?_⟩
  refine⟨by show 0+acc.length<=(acc.map i64).length;simp,acc.map i64,qAD (by simp),by show(acc.length+1) * 8<=140737488355328;have:=k2.len;omega,(acc++[g]).map i64,by simp,?_⟩
  refine qAF (ints (acc++[g])) rfl ⟨_,rfl,by show 0+(acc.length+1)<=((acc++[g]).map i64).length;simp,qAD (by simp)⟩ ⟨_,rfl,by rw [<- i2];exact k2.snoc k3 k4⟩
 refine⟨(k:Int) - 1,w6z,?_⟩
 refine And.intro (fun _=>?_) (fun h=>absurd (show(i:Int)<(k:Int) - 1 by omega) h)
 by_cases i0:i=0
 ·subst i0
  refine⟨by show(0:Int)<=_/\_<_;exact⟨by omega,by omega⟩,?_⟩
  refine⟨.p (u8 a),qP3 (by kernel_rfl) rfl,?_⟩
  refine⟨((a).toNat:Int),wrap_i64 (by omega) (by have:=(a).toNat_lt;omega),?_⟩
  refine⟨g+1,w6z,?_⟩
  have hv:=qOs (a).toNat k3
  refine⟨by show ¬ g+1=0;omega,?_⟩
  generalize (((a).toNat:Int)).tmod (g+1)=v at hv ⊢
  refine⟨by show 0+1<=1;omega,[i64 v],rfl,?_⟩
  refine⟨by show 0+acc.length<=(acc.map i64).length;simp,acc.map i64,qAD (by simp),by show(acc.length+1) * 8<=140737488355328;have:=k2.len;omega,(acc++[v]).map i64,by simp,?_⟩
  refine⟨g - v,w6z,?_⟩
  refine⟨((1:Nat):Int),by show((1:Nat):Int)=IntKind.i64.wrap (((0:Nat):Int)+1);exact w6z,?_⟩
  exact⟨(1,acc++[v],g - v),⟨by show 1+1<=k;omega,k2.snoc hv.1 (by omega),by show 0<=g - v;omega,by show g - v<=12;omega⟩,qAA [] [(1,3)] [] rfl ⟨rfl,⟨rfl,rfl⟩,congrArg (fun k:Nat=>AV.sl 3 1 0 k) (qAN acc v).symm,rfl,rfl,trivial⟩ (sk) rfl,by show k - 1<k - 0;omega⟩
 ·obtain rfl:i=1:=by omega
  refine⟨by show(0:Int)<=_/\_<_;exact⟨by omega,by omega⟩,?_⟩
  refine⟨.p (u8 b),qP3 (by kernel_rfl) rfl,?_⟩
  refine⟨((b).toNat:Int),wrap_i64 (by omega) (by have:=(b).toNat_lt;omega),?_⟩
  refine⟨g+1,w6z,?_⟩
  have hv:=qOs (b).toNat k3
  refine⟨by show ¬ g+1=0;omega,?_⟩
  generalize (((b).toNat:Int)).tmod (g+1)=v at hv ⊢
  refine⟨by show 0+1<=1;omega,[i64 v],rfl,?_⟩
  refine⟨by show 0+acc.length<=(acc.map i64).length;simp,acc.map i64,qAD (by simp),by show(acc.length+1) * 8<=140737488355328;have:=k2.len;omega,(acc++[v]).map i64,by simp,?_⟩
  refine⟨g - v,w6z,?_⟩
  refine⟨((2:Nat):Int),by show((2:Nat):Int)=IntKind.i64.wrap (((1:Nat):Int)+1);exact w6z,?_⟩
  exact⟨(2,acc++[v],g - v),⟨by show 2+1<=k;omega,k2.snoc hv.1 (by omega),by show 0<=g - v;omega,by show g - v<=12;omega⟩,qAA [] [(1,3)] [] rfl ⟨rfl,⟨rfl,rfl⟩,congrArg (fun k:Nat=>AV.sl 3 1 0 k) (qAN acc v).symm,rfl,rfl,trivial⟩ (sk) rfl,by show k - 2<k - 1;omega⟩
end Go.Proofs.YtmepdfingcmkmaaGreatDoor
