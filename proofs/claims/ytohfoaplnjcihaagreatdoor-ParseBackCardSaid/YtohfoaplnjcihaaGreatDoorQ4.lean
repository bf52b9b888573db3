/- Part 4 of the proof: Ks Kt Ku Kv Kw Kx Ky Ja Jb Jc Jd Je Jf Lo Lp Lq Lr Lv Lw Pa Pb Oa Ob Oc Od Oe Of Og Bb Bg Za Zb Aa Zc Ac Ga Yzd Yze Va -/
import Derived.Lib.Bytealg
import Derived.Laws.Externs
import Derived.ChangeArms
import Derived.OpenShut
import Derived.WideHanded
import Derived.ChangeSame
import Derived.ProofKit
import Derived.LaidMore
import Derived.LaidLaws
import Derived.Stop.Joined
import Derived.MakeChecks
import Derived.Test.YtohfoaplnjcihaaGreatDoorQ3
namespace Go.Proofs.YtohfoaplnjcihaaGreatDoor
open Go Y
set_option maxRecDepth 100000
set_option maxHeartbeats 4000000
def qAt (d:De):Bool:=
 if d.kind=1 then decide (d.name=[]) && decide (d.plate=[]) && decide (d.refs.length=0) && decide (d.cases.length=0)
 else if d.kind=2 then qAj d.name && decide (d.plate=[]) && decide (d.refs.length=0) && decide (d.cases.length=0)
 else if d.kind=3 then qAj d.name && (decide (d.plate=[]) || qAj d.plate) && qBM d.cases
 else if d.kind=4 then qAj d.name && decide (d.plate=[]) && decide (d.cases.length=0)
 else if d.kind=5 then decide (d.n=0) && decide (d.name=[]) && decide (d.plate=[]) && qBM d.cases else false
def qBa (d:De):Bool:=qBt d.n && decide (d.refs.length<=8) && d.refs.all qBl && qAt d
def qBH (ds:List De):Bool:=decide (ds.length<=30) && ds.all qBa
def qTO (ds:List De):Int:=if qBH ds then 0 else 380
structure BigD (d:De):Prop where
 name:qKq d.name
 plate:qKq d.plate
 len:d.refs.length<=9223372036854775807
 refs:∀ r∈d.refs,BigR r
 cases:BigL d.cases
structure BigP (ds:List De):Prop where
 len:ds.length<=9223372036854775807
 decl:∀ d∈ds,BigD d
def de0:De:=⟨0,0,[],[],[],[]⟩
theorem qK8 {l:List Rf} {k:Nat} (h:k<l.length):(l.map Rf.cells)[k]?=some (l.getD k rf0).cells:=qDz rf0 h
theorem qJj {l:List De} {k:Nat} (h:k<l.length):(l.map De.cells)[k]?=some (l.getD k de0).cells:=qDz de0 h
theorem qLr {α:Type} {l:List α} {f:α->Bool} {k:Nat} (d:α) (h:k<l.length) (hf:f (l.getD k d)=false):l.all f=false:=by
 rw [Bool.eq_false_iff]
 intro ha
 have:=List.all_eq_true.1 ha _ (qAL d h)
 rw [hf] at this;cases this
theorem qKc (d:De) (hb:BigD d):Pure cx 48 [d.pv] (·=.ret [.bool (qBa d)]):=by
 refine qAC Tryz.func48 rfl rfl rfl ?_
 have hN:=qEq d.n
 have hI:=qHb d.name hb.name
 have hJ:=qHb d.plate hb.plate
 have hC:=qVj d.cases hb.cases
 have hrl:=hb.len
 have hcl:=hb.cases.len
 have hm:(d.refs.map Rf.cells).length=d.refs.length:=List.length_map ..
 by_cases n1:qBt d.n=true
 rotate_left
 ·rw [Bool.not_eq_true] at n1
  rw [n1] at hN
  refine hN.eq rfl ?_
  exact qAG _ rfl rfl (qAO (by rw [qBa,n1];rfl))
 rw [n1] at hN
 refine hN.eq rfl ?_
 refine QAD (fun h2=>?_) (fun h2=>?_)
 ·have h2:(8:Int)<((d.refs.map Rf.cells).length:Nat):=h2
  rw [hm] at h2
  exact qAG _ rfl rfl (qAO (by rw [qBa,decide_eq_false (show ¬ d.refs.length<=8 by omega),Bool.and_false];rfl))
 have h2:¬ (8:Int)<((d.refs.map Rf.cells).length:Nat):=h2
 rw [hm] at h2
 refine⟨Nat,fun k=>[(1, .ptr 0 0 0),(16, .p (qB5 d.refs)),(17, .p (i64 d.refs.length)),(18, .p (i64 k))],fun _=>⟨1,[(0,deO d)]⟩,fun k=>k<=d.refs.length/\∀ x∈d.refs.take k,qBl x=true,fun k=>d.refs.length - k,?_,?_⟩
 ·exact⟨0,⟨Nat.zero_le _,by simp⟩,qAB [] [] [] rfl ⟨⟨rfl,rfl⟩,rfl,congrArg (fun n:Nat=>i64 n) hm.symm,rfl,trivial⟩ (sk) rfl⟩
 rintro k ⟨k1,k2⟩
 refine QAD (fun m1=>?_) (fun m1=>?_)
 ·have m1:(k:Int)<(d.refs.length:Nat):=m1
  have hk:k<d.refs.length:=by omega
  refine⟨_,⟨by omega,(d.refs.getD k rf0).cells,qK8 hk,rfl⟩,?_⟩
  have hR:=qHy (d.refs.getD k rf0) (hb.refs _ (qAL rf0 hk))
  by_cases r1:qBl (d.refs.getD k rf0)=true
  rotate_left
  ·rw [Bool.not_eq_true] at r1
   rw [r1] at hR
   refine hR.eq rfl ?_
   exact qAG _ rfl rfl (qAO (by rw [qBa,qLr rf0 hk r1,Bool.and_false];rfl))
  rw [r1] at hR
  refine hR.eq rfl ?_
  refine⟨_,w6z,?_⟩
  refine⟨k+1,⟨by omega,fun x hx=>?_⟩,qAB [] [] [] rfl (sk) (sk) rfl,by show d.refs.length - (k+1)<d.refs.length - k;omega⟩
  rw [qAY rf0 hk] at hx
  rcases List.mem_append.1 hx with hx | hx
  ·exact k2 x hx
  ·rw [List.mem_singleton.1 hx];exact r1
 have m1:¬ (k:Int)<(d.refs.length:Nat):=m1
 rw [qBg (by omega)] at k2
 have hfin:qBa d=qAt d:=by rw [qBa,n1,decide_eq_true (show d.refs.length<=8 by omega),List.all_eq_true.2 k2];rfl
 clear k1 k2 m1
 refine QAD (fun o1=>?_) (fun o1=>?_)
 ·have o1:d.kind=1:=o1
  refine QAD (fun p1=>?_) (fun p1=>?_)
  rotate_left
  ·have p1:¬ d.name=[]:=p1
   exact qAG _ rfl rfl (qAO (by rw [hfin];simp [qAt, *]))
  have p1:d.name=[]:=p1
  refine QAD (fun p2=>?_) (fun p2=>?_)
  rotate_left
  ·have p2:¬ d.plate=[]:=p2
   exact qAG _ rfl rfl (qAO (by rw [hfin];simp [qAt, *]))
  have p2:d.plate=[]:=p2
  refine QAD (fun p3=>?_) (fun p3=>?_)
  rotate_left
  ·have p3:¬ ((d.refs.map Rf.cells).length:Int)=0:=p3
   rw [List.length_map] at p3
   have p3:¬ d.refs=[]:=fun e=>p3 (by rw [e];rfl)
   exact qAG _ rfl rfl (qAO (by rw [hfin];simp [qAt, *]))
  have p3:((d.refs.map Rf.cells).length:Int)=0:=p3
  rw [List.length_map] at p3
  have p3:d.refs=[]:=List.length_eq_zero_iff.1 (by omega)
  refine QAD (fun p4=>?_) (fun p4=>?_)
  rotate_left
  ·have p4:¬ ((d.cases.map Cs.cells).length:Int)=0:=p4
   rw [List.length_map] at p4
   have p4:¬ d.cases=[]:=fun e=>p4 (by rw [e];rfl)
   exact qAG _ rfl rfl (qAO (by rw [hfin];simp [qAt, *]))
  have p4:((d.cases.map Cs.cells).length:Int)=0:=p4
  rw [List.length_map] at p4
  have p4:d.cases=[]:=List.length_eq_zero_iff.1 (by omega)
  exact qAG _ rfl rfl (qAO (by rw [hfin];simp [qAt, *]))
 have o1:¬ d.kind=1:=o1
 refine QAD (fun o2=>?_) (fun o2=>?_)
 ·have o2:d.kind=2:=o2
  by_cases p1:qAj d.name=true
  rotate_left
  ·rw [Bool.not_eq_true] at p1
   rw [p1] at hI
   refine hI.eq rfl ?_
   exact qAG _ rfl rfl (qAO (by rw [hfin];simp [qAt, *]))
  rw [p1] at hI
  refine hI.eq rfl ?_
  refine QAD (fun p2=>?_) (fun p2=>?_)
  rotate_left
  ·have p2:¬ d.plate=[]:=p2
   exact qAG _ rfl rfl (qAO (by rw [hfin];simp [qAt, *]))
  have p2:d.plate=[]:=p2
  refine QAD (fun p3=>?_) (fun p3=>?_)
  rotate_left
  ·have p3:¬ ((d.refs.map Rf.cells).length:Int)=0:=p3
   rw [List.length_map] at p3
   have p3:¬ d.refs=[]:=fun e=>p3 (by rw [e];rfl)
   exact qAG _ rfl rfl (qAO (by rw [hfin];simp [qAt, *]))
  have p3:((d.refs.map Rf.cells).length:Int)=0:=p3
  rw [List.length_map] at p3
  have p3:d.refs=[]:=List.length_eq_zero_iff.1 (by omega)
  refine QAD (fun p4=>?_) (fun p4=>?_)
  rotate_left
  ·have p4:¬ ((d.cases.map Cs.cells).length:Int)=0:=p4
   rw [List.length_map] at p4
   have p4:¬ d.cases=[]:=fun e=>p4 (by rw [e];rfl)
   exact qAG _ rfl rfl (qAO (by rw [hfin];simp [qAt, *]))
  have p4:((d.cases.map Cs.cells).length:Int)=0:=p4
  rw [List.length_map] at p4
  have p4:d.cases=[]:=List.length_eq_zero_iff.1 (by omega)
  exact qAG _ rfl rfl (qAO (by rw [hfin];simp [qAt, *]))
 have o2:¬ d.kind=2:=o2
 refine QAD (fun o3=>?_) (fun o3=>?_)
 ·have o3:d.kind=3:=o3
  by_cases p1:qAj d.name=true
  rotate_left
  ·rw [Bool.not_eq_true] at p1
   rw [p1] at hI
   refine hI.eq rfl ?_
   exact qAG _ rfl rfl (qAO (by rw [hfin];simp [qAt, *]))
  rw [p1] at hI
  refine hI.eq rfl ?_
  refine QAD (fun p2=>?_) (fun p2=>?_)
  ·have p2:d.plate=[]:=p2
   refine hC.eq rfl ?_
   exact qAG _ rfl rfl (qAO (by rw [hfin];simp [qAt, *]))
  have p2:¬ d.plate=[]:=p2
  by_cases p3:qAj d.plate=true
  rotate_left
  ·rw [Bool.not_eq_true] at p3
   rw [p3] at hJ
   refine hJ.eq rfl ?_
   exact qAG _ rfl rfl (qAO (by rw [hfin];simp [qAt, *]))
  rw [p3] at hJ
  refine hJ.eq rfl ?_
  refine hC.eq rfl ?_
  exact qAG _ rfl rfl (qAO (by rw [hfin];simp [qAt, *]))
 have o3:¬ d.kind=3:=o3
 refine QAD (fun o4=>?_) (fun o4=>?_)
 ·have o4:d.kind=4:=o4
  by_cases p1:qAj d.name=true
  rotate_left
  ·rw [Bool.not_eq_true] at p1
   rw [p1] at hI
   refine hI.eq rfl ?_
   exact qAG _ rfl rfl (qAO (by rw [hfin];simp [qAt, *]))
  rw [p1] at hI
  refine hI.eq rfl ?_
  refine QAD (fun p2=>?_) (fun p2=>?_)
  rotate_left
  ·have p2:¬ d.plate=[]:=p2
   exact qAG _ rfl rfl (qAO (by rw [hfin];simp [qAt, *]))
  have p2:d.plate=[]:=p2
  refine QAD (fun p4=>?_) (fun p4=>?_)
  rotate_left
  ·have p4:¬ ((d.cases.map Cs.cells).length:Int)=0:=p4
   rw [List.length_map] at p4
   have p4:¬ d.cases=[]:=fun e=>p4 (by rw [e];rfl)
   exact qAG _ rfl rfl (qAO (by rw [hfin];simp [qAt, *]))
  have p4:((d.cases.map Cs.cells).length:Int)=0:=p4
  rw [List.length_map] at p4
  have p4:d.cases=[]:=List.length_eq_zero_iff.1 (by omega)
  exact qAG _ rfl rfl (qAO (by rw [hfin];simp [qAt, *]))
 have o4:¬ d.kind=4:=o4
 refine QAD (fun o5=>?_) (fun o5=>?_)
 ·have o5:d.kind=5:=o5
  refine QAD (fun p1=>?_) (fun p1=>?_)
  rotate_left
  ·have p1:¬ d.n=0:=p1
   exact qAG _ rfl rfl (qAO (by rw [hfin];simp [qAt, *]))
  have p1:d.n=0:=p1
  refine QAD (fun p2=>?_) (fun p2=>?_)
  rotate_left
  ·have p2:¬ d.name=[]:=p2
   exact qAG _ rfl rfl (qAO (by rw [hfin];simp [qAt, *]))
  have p2:d.name=[]:=p2
  refine QAD (fun p3=>?_) (fun p3=>?_)
  rotate_left
  ·have p3:¬ d.plate=[]:=p3
   exact qAG _ rfl rfl (qAO (by rw [hfin];simp [qAt, *]))
  have p3:d.plate=[]:=p3
  refine hC.eq rfl ?_
  exact qAG _ rfl rfl (qAO (by rw [hfin];simp [qAt, *]))
 have o5:¬ d.kind=5:=o5
 exact qAG _ rfl rfl (qAO (by rw [hfin];simp [qAt, *]))
theorem qKK (ds:List De) (hb:BigP ds):Pure cx 15 [qCn ds] (·=.ret [i64 (qTO ds)]):=by
 refine qAC Tryz.func15 rfl rfl rfl ?_
 have hl:=hb.len
 have hm:(ds.map De.cells).length=ds.length:=List.length_map ..
 have bad:qBH ds=false->qTO ds=380:=fun h=>by rw [qTO,h];rfl
 refine QAD (fun h2=>?_) (fun h2=>?_)
 ·have h2:(30:Int)<((ds.map De.cells).length:Nat):=h2
  rw [hm] at h2
  exact qAG _ rfl rfl (qE4 (bad (by rw [qBH,decide_eq_false (show ¬ ds.length<=30 by omega)];rfl)).symm)
 have h2:¬ (30:Int)<((ds.map De.cells).length:Nat):=h2
 rw [hm] at h2
 refine⟨Nat,fun k=>[(10, .p (des ds)),(11, .p (i64 ds.length)),(12, .p (i64 k))],fun _=>⟨0,[]⟩,fun k=>k<=ds.length/\∀ x∈ds.take k,qBa x=true,fun k=>ds.length - k,?_,?_⟩
 ·exact⟨0,⟨Nat.zero_le _,by simp⟩,qAB [] [] [] rfl ⟨rfl,congrArg (fun n:Nat=>i64 n) hm.symm,rfl,trivial⟩ trivial rfl⟩
 rintro k ⟨k1,k2⟩
 refine QAD (fun m1=>?_) (fun m1=>?_)
 ·have m1:(k:Int)<(ds.length:Nat):=m1
  have hk:k<ds.length:=by omega
  refine⟨_,⟨by omega,(ds.getD k de0).cells,qJj hk,rfl⟩,?_⟩
  have hR:=qKc (ds.getD k de0) (hb.decl _ (qAL de0 hk))
  by_cases r1:qBa (ds.getD k de0)=true
  rotate_left
  ·rw [Bool.not_eq_true] at r1
   rw [r1] at hR
   refine hR.eq rfl ?_
   exact qAG _ rfl rfl (qE4 (bad (by rw [qBH,qLr de0 hk r1,Bool.and_false])).symm)
  rw [r1] at hR
  refine hR.eq rfl ?_
  refine⟨_,w6z,?_⟩
  refine⟨k+1,⟨by omega,fun x hx=>?_⟩,qAB [] [] [] rfl (sk) trivial rfl,by show ds.length - (k+1)<ds.length - k;omega⟩
  rw [qAY de0 hk] at hx
  rcases List.mem_append.1 hx with hx | hx
  ·exact k2 x hx
  ·rw [List.mem_singleton.1 hx];exact r1
 have m1:¬ (k:Int)<(ds.length:Nat):=m1
 rw [qBg (by omega)] at k2
 exact qAG _ rfl rfl (qE4 (by rw [qTO,qBH,decide_eq_true (show ds.length<=30 by omega),List.all_eq_true.2 k2];rfl))
theorem qJC (s:List UInt8):∀ (f k:Nat) (acc ws:List Wd),GoodW acc->qEB f s k acc=.ok ws->GoodW ws
 | 0,k,acc,ws,h,e=>by
  rw [qEB] at e
  injection e with e
  subst e;exact h
 | f+1,k,acc,ws,h,e=>by
  rw [qEB] at e
  split at e
  ·cases e
  ·rename_i n _
   rw [qGm] at e
   split at e
   ·injection e with e
    subst e;exact h
   ·split at e
    ·cases e
    ·rename_i hr
     split at e
     ·cases e
     ·rename_i hn
      refine qJC s f _ _ ws ⟨fun w hw=>?_,?_⟩ e
      ·rcases List.mem_append.1 hw with hw | hw
       ·exact h.right w hw
       ·rw [List.mem_singleton.1 hw];exact hr
      ·have:=h.len
       rw [qAK];omega
theorem qGB {s:List UInt8} {ws:List Wd} (h:qFf s=.ok ws):GoodW ws:=
 qJC s _ _ [] ws ⟨fun w hw=>by simp at hw,by simp⟩ h
theorem qEE {ws:List Wd} (hg:GoodW ws) {q q':Nat} {t:List UInt8} (h:qCU ws q=.inr (t,q')):qKq t:=by
 rw [qCU] at h
 split at h
 ·rename_i hk
  injection h with h;injection h with h1 h2
  have:=hg.at (qGK (ws:=ws) (q:=q) (by rw [hk];decide))
  rw [hk] at this
  have:qAj (txt ws q)=true:=this
  simp only [qAj,Bool.and_eq_true,decide_eq_true_eq] at this
  rw [qKq,<- h1]
  have:=this.1.1.1.2
  omega
 ·cases h
theorem qBT:qKq []:=by rw [qKq];simp
theorem qHV {ws:List Wd} {nm pl:List UInt8} {m n:Int} {q q':Nat} {r:Rf} (h1:qKq nm) (h2:qKq pl) (h:qBp ws nm m pl n q=.inr (r,q')):BigR r:=by
 obtain⟨u,p,_,h⟩:=then_ok h
 injection h with h;injection h with h3 h4
 rw [<- h3];exact⟨h1,h2⟩
theorem qQV {ws:List Wd} (hg:GoodW ws) {q q':Nat} {r:Rf} (h:qHz ws q=.inr (r,q')):BigR r:=by
 rw [qHz] at h
 obtain⟨nm,q1,h1,h⟩:=then_ok h
 have b1:=qEE hg h1
 try simp only [] at h
 split at h
 ·split at h
  ·exact qHV b1 qBT h
  ·split at h
   ·obtain⟨n,q2,h2,h⟩:=then_ok h
    exact qHV b1 qBT h
   ·obtain⟨pl,q2,h2,h⟩:=then_ok h
    have b2:=qEE hg h2
    try simp only [] at h
    split at h
    ·obtain⟨n,q3,h3,h⟩:=then_ok h
     exact qHV b1 b2 h
    ·exact qHV b1 b2 h
 ·injection h with h;injection h with h3 h4
  rw [<- h3];exact⟨b1,qBT⟩
theorem qN7 {α:Type} {ws:List Wd} {rd:Nat->Rd α} {P:α->Prop} (hrd:∀ q a q',rd q=.inr (a,q')->P a):∀ (f:Nat) {acc l:List α} {q q':Nat},(∀ a∈acc,P a)->qCt ws rd f acc q=.inr (l,q')->(∀ a∈l,P a)/\l.length<=acc.length+f
 | 0,_,_,_,_,_,h=>by cases h
 | f+1,acc,l,q,q',ha,h=>by
  rw [qCt] at h
  split at h
  ·obtain⟨a,q1,h1,h⟩:=then_ok h
   have h2:=qN7 hrd f (acc:=acc++[a]) (fun b hb=>by
    rcases List.mem_append.1 hb with hb | hb
    ·exact ha b hb
    ·rw [List.mem_singleton.1 hb];exact hrd _ _ _ h1) h
   rw [qAK] at h2
   exact⟨h2.1,by omega⟩
  ·injection h with h;injection h with h1 h2
   rw [<- h1];exact⟨ha,by omega⟩
theorem qOA {α:Type} {ws:List Wd} {rd:Nat->Rd α} {P:α->Prop} (hrd:∀ q a q',rd q=.inr (a,q')->P a) {F q q':Nat} {l:List α} (h:qEa ws rd F q=.inr (l,q')):(∀ a∈l,P a)/\l.length<=F+1:=by
 rw [qEa] at h
 obtain⟨a,q1,h1,h⟩:=then_ok h
 have:=qN7 hrd F (acc:=[a]) (fun b hb=>by rw [List.mem_singleton.1 hb];exact hrd _ _ _ h1) h
 simp only [List.length_singleton] at this
 exact⟨this.1,by omega⟩
theorem qKA {ws:List Wd} (hg:GoodW ws) {F:Nat} {key:List UInt8} {q q':Nat} {l:List Rf} (h:qDm ws F key q=.inr (l,q')):(∀ r∈l,BigR r)/\l.length<=F+1:=by
 rw [qDm] at h
 split at h
 ·exact qOA (fun q a q' h=>qQV hg h) h
 ·injection h with h;injection h with h1 h2
  rw [<- h1];exact⟨fun r hr=>by simp at hr,by simp⟩
theorem qOK {ws:List Wd}:∀ (f:Nat) {acc l:List Int} {q q':Nat},qC4 ws f acc q=.inr (l,q')->l.length<=acc.length+f
 | 0,_,_,_,_,h=>by cases h
 | f+1,acc,l,q,q',h=>by
  rw [qC4] at h
  split at h
  ·obtain⟨a,q1,h1,h⟩:=then_ok h
   have:=qOK f h
   rw [qAK] at this;omega
  ·injection h with h;injection h with h1 h2
   rw [<- h1];omega
theorem qNy {ws:List Wd} {F q q':Nat} {l:List Int} (h:qDL ws F q=.inr (l,q')):l.length<=F+1:=by
 rw [qDL] at h
 obtain⟨a,q1,h1,h⟩:=then_ok h
 have:=qOK F h
 simp only [List.length_singleton] at this;omega
theorem qRN (l:List Int) (n:Int):(qIN l n).length<=l.length+1:=by
 induction l with
 | nil=>simp [qIN]
 | cons x l ih=>
  rw [qIN]
  split
  ·simp
  ·split
   ·simp
   ·simp only [List.length_cons];omega
theorem qQB:∀ (l acc:List Int),(l.foldl qIN acc).length<=acc.length+l.length
 | [],acc=>by simp
 | x::l,acc=>by
  have:=qQB l (qIN acc x)
  have:=qRN acc x
  simp only [List.foldl_cons,List.length_cons];omega
structure CBig (ws:List Wd) (F:Nat):Prop where
 cond:∀ {q c q'},qCa ws F q=.inr (c,q')->qC1 c
 orr:∀ {d q c q'},qC1 d->orR ws F d q=.inr (c,q')->qC1 c
 conj:∀ {q c q'},qCZ ws F q=.inr (c,q')->qC1 c
 andr:∀ {d q c q'},qC1 d->qIh ws F d q=.inr (c,q')->qC1 c
 neg:∀ {q c q'},qFk ws F q=.inr (c,q')->qC1 c
 test:∀ {q c q'},qDF ws F q=.inr (c,q')->qC1 c
theorem qG6 {op:Int} {a b:Cd} (ha:qC1 a) (hb:qC1 b):qC1 (.mk op 0 0 0 rf0 [] [a,b]):=by
 simp only [qC1,qIv]
 exact⟨⟨qBT,qBT⟩,by simp,by simp,ha,hb,trivial⟩
theorem qNC {op:Int} {a:Cd} (ha:qC1 a):qC1 (.mk op 0 0 0 rf0 [] [a]):=by
 simp only [qC1,qIv]
 exact⟨⟨qBT,qBT⟩,by simp,by simp,ha,trivial⟩
theorem qC6 {o n r v:Int} {rf:Rf} {st:List Int} (hr:BigR rf) (hs:st.length<=9223372036854775807):qC1 (.mk o n r v rf st []):=by
 simp only [qC1,qIv]
 exact⟨hr,hs,by simp,trivial⟩
theorem qXD (ws:List Wd) (hg:GoodW ws):∀ F,F<=100000->CBig ws F
 | 0,_=>by
  constructor
  ·intro q c q' h;rw [qCa] at h;cases h
  ·intro d q c q' _ h;rw [orR] at h;cases h
  ·intro q c q' h;rw [qCZ] at h;cases h
  ·intro d q c q' _ h;rw [qIh] at h;cases h
  ·intro q c q' h;rw [qFk] at h;cases h
  ·intro q c q' h;rw [qDF] at h;cases h
 | F+1,hF=>by
  have ih:=qXD ws hg F (by omega)
  constructor
  ·intro q c q' h
   rw [qCa] at h
   obtain⟨a,p,h1,h⟩:=then_ok h
   exact ih.orr (ih.conj h1) h
  ·intro d q c q' hd h
   rw [orR] at h
   split at h
   ·obtain⟨a,p,h1,h⟩:=then_ok h
    exact ih.orr (qG6 hd (ih.conj h1)) h
   ·injection h with h;injection h with h1 h2
    rw [<- h1];exact hd
  ·intro q c q' h
   rw [qCZ] at h
   obtain⟨a,p,h1,h⟩:=then_ok h
   exact ih.andr (ih.neg h1) h
  ·intro d q c q' hd h
   rw [qIh] at h
   split at h
   ·obtain⟨a,p,h1,h⟩:=then_ok h
    exact ih.andr (qG6 hd (ih.neg h1)) h
   ·injection h with h;injection h with h1 h2
    rw [<- h1];exact hd
  ·intro q c q' h
   rw [qFk] at h
   split at h
   ·obtain⟨a,p,h1,h⟩:=then_ok h
    injection h with h;injection h with h2 h3
    rw [<- h2];exact qNC (ih.neg h1)
   ·exact ih.test h
  ·intro q c q' h
   rw [qDF] at h
   split at h
   ·obtain⟨a,p,h1,h⟩:=then_ok h
    obtain⟨u,p2,h2,h⟩:=then_ok h
    injection h with h;injection h with h3 h4
    rw [<- h3];exact ih.cond h1
   ·split at h
    ·obtain⟨u,p1,h1,h⟩:=then_ok h
     obtain⟨nm,p2,h2,h⟩:=then_ok h
     obtain⟨u3,p3,h3,h⟩:=then_ok h
     obtain⟨v,p4,h4,h⟩:=then_ok h
     obtain⟨u5,p5,h5,h⟩:=then_ok h
     obtain⟨r,p6,h6,h⟩:=then_ok h
     obtain⟨n,p7,h7,h⟩:=then_ok h
     injection h with h;injection h with h8 h9
     rw [<- h8];exact qC6 ⟨qEE hg h2,qBT⟩ (by simp)
    ·obtain⟨r,p1,h1,h⟩:=then_ok h
     have hr:=qQV hg h1
     try simp only [] at h
     split at h
     ·obtain⟨u,p2,h2,h⟩:=then_ok h
      obtain⟨l,p3,h3,h⟩:=then_ok h
      obtain⟨u4,p4,h4,h⟩:=then_ok h
      have hl:=(qOA (P:=fun _=>True) (fun _ _ _ _=>trivial) h3).2
      have hs:=qQB l []
      injection h with h;injection h with h8 h9
      rw [<- h8];exact qC6 hr (by rw [qOy];simp only [List.length_nil] at hs;omega)
     ·obtain⟨o,p2,h2,h⟩:=then_ok h
      obtain⟨n,p3,h3,h⟩:=then_ok h
      injection h with h;injection h with h8 h9
      rw [<- h8];exact qC6 hr (by simp)
structure BigK (F:Nat) (c:Cs):Prop where
 cond:qC1 c.cond
 nums:c.nums.length<=F+1
theorem qLi {ws:List Wd} (hg:GoodW ws) {F:Nat} (hF:F<=100000):∀ (f:Nat) {acc l:List Cs} {q q':Nat},(∀ c∈acc,BigK F c)->qCV ws F f acc q=.inr (l,q')->(∀ c∈l,BigK F c)/\l.length<=acc.length+f
 | 0,_,_,_,_,_,h=>by cases h
 | f+1,acc,l,q,q',ha,h=>by
  rw [qCV] at h
  split at h
  ·rw [qFb] at h
   obtain⟨u,q1,h1,h⟩:=then_ok h
   obtain⟨l1,q2,h2,h⟩:=then_ok h
   obtain⟨u3,q3,h3,h⟩:=then_ok h
   injection h with h;injection h with h8 h9
   rw [<- h8]
   refine⟨fun c hc=>?_,by rw [qAK];omega⟩
   rcases List.mem_append.1 hc with hc | hc
   ·exact ha c hc
   ·rw [List.mem_singleton.1 hc]
    exact⟨qC6 ⟨qBT,qBT⟩ (by simp),qNy h2⟩
  ·obtain⟨c,q1,h1,h⟩:=then_ok h
   obtain⟨u2,q2,h2,h⟩:=then_ok h
   obtain⟨l3,q3,h3,h⟩:=then_ok h
   obtain⟨u4,q4,h4,h⟩:=then_ok h
   have:=qLi hg hF f (acc:=acc++[⟨c,l3⟩]) (fun x hx=>by
    rcases List.mem_append.1 hx with hx | hx
    ·exact ha x hx
    ·rw [List.mem_singleton.1 hx]
     exact⟨(qXD ws hg F hF).cond h1,qNy h3⟩) h
   rw [qAK] at this
   exact⟨this.1,by omega⟩
theorem qNf {ws:List Wd} (hg:GoodW ws) {F:Nat} (hF:F<=100000) {q q':Nat} {l:List Cs} (h:qEi ws F q=.inr (l,q')):BigL l:=by
 rw [qEi] at h
 obtain⟨u,q1,h1,h⟩:=then_ok h
 obtain⟨h2,h3⟩:=qLi hg hF F (acc:=[]) (fun c hc=>by simp at hc) h
 simp only [List.length_nil] at h3
 exact⟨by omega,fun c hc=>(h2 c hc).cond,fun c hc=>by have:=(h2 c hc).nums;omega⟩
theorem qGr:BigL []:=⟨by simp,fun c hc=>by simp at hc,fun c hc=>by simp at hc⟩
theorem qLH {ws:List Wd} (hg:GoodW ws) {F:Nat} (hF:F<=100000) {q q':Nat} {nm pl:List UInt8} {d:De} (b1:qKq nm) (b2:qKq pl) (h:qBs ws F nm pl q=.inr (d,q')):BigD d:=by
 rw [qBs] at h
 obtain⟨u1,q1,h1,h⟩:=then_ok h
 obtain⟨n,q2,h2,h⟩:=then_ok h
 obtain⟨l,q3,h3,h⟩:=then_ok h
 obtain⟨u4,q4,h4,h⟩:=then_ok h
 obtain⟨cs,q5,h5,h⟩:=then_ok h
 have hr:=qKA hg h3
 injection h with h;injection h with h8 h9
 rw [<- h8]
 exact⟨b1,b2,by have:=hr.2;simp only [];omega,hr.1,qNf hg hF h5⟩
theorem qTL {ws:List Wd} (hg:GoodW ws) {F:Nat} (hF:F<=100000) {q q':Nat} {d:De} (h:qB3 ws F q=.inr (d,q')):BigD d:=by
 rw [qB3] at h
 split at h
 ·rw [qFQ] at h
  obtain⟨n,q1,h1,h⟩:=then_ok h
  injection h with h;injection h with h8 h9
  rw [<- h8]
  exact⟨qBT,qBT,by simp,fun r hr=>by simp at hr,qGr⟩
 split at h
 ·rw [qFO] at h
  obtain⟨nm,q1,h1,h⟩:=then_ok h
  obtain⟨u,q2,h2,h⟩:=then_ok h
  obtain⟨n,q3,h3,h⟩:=then_ok h
  injection h with h;injection h with h8 h9
  rw [<- h8]
  exact⟨qEE hg h1,qBT,by simp,fun r hr=>by simp at hr,qGr⟩
 split at h
 ·rw [qIn] at h
  obtain⟨nm,q1,h1,h⟩:=then_ok h
  have b1:=qEE hg h1
  try simp only [] at h
  split at h
  ·obtain⟨pl,q2,h2,h⟩:=then_ok h
   obtain⟨u,q3,h3,h⟩:=then_ok h
   exact qLH hg hF b1 (qEE hg h2) h
  ·exact qLH hg hF b1 qBT h
 split at h
 ·rw [qDp] at h
  obtain⟨nm,q1,h1,h⟩:=then_ok h
  obtain⟨u,q2,h2,h⟩:=then_ok h
  obtain⟨n,q3,h3,h⟩:=then_ok h
  obtain⟨l,q4,h4,h⟩:=then_ok h
  have hr:=qKA hg h4
  injection h with h;injection h with h8 h9
  rw [<- h8]
  exact⟨qEE hg h1,qBT,by have:=hr.2;simp only [];omega,hr.1,qGr⟩
 split at h
 ·rw [qIr] at h
  obtain⟨l,q1,h1,h⟩:=then_ok h
  obtain⟨u,q2,h2,h⟩:=then_ok h
  obtain⟨cs,q3,h3,h⟩:=then_ok h
  have hr:=qKA hg h1
  injection h with h;injection h with h8 h9
  rw [<- h8]
  exact⟨qBT,qBT,by have:=hr.2;simp only [];omega,hr.1,qNf hg hF h3⟩
 ·cases h
theorem qNt {ws:List Wd} (hg:GoodW ws) {F:Nat} (hF:F<=100000):∀ (f:Nat) {acc l:List De} {q q':Nat},(∀ d∈acc,BigD d)->qCq ws F f acc q=.inr (l,q')->(∀ d∈l,BigD d)/\l.length<=acc.length+f
 | 0,_,_,_,_,_,h=>by cases h
 | f+1,acc,l,q,q',ha,h=>by
  rw [qCq] at h
  split at h
  ·obtain⟨d,q1,h1,h⟩:=then_ok h
   obtain⟨u,q2,h2,h⟩:=then_ok h
   have:=qNt hg hF f (acc:=acc++[d]) (fun x hx=>by
    rcases List.mem_append.1 hx with hx | hx
    ·exact ha x hx
    ·rw [List.mem_singleton.1 hx];exact qTL hg hF h1) h
   rw [qAK] at this
   exact⟨this.1,by omega⟩
  ·injection h with h;injection h with h8 h9
   rw [<- h8];exact⟨ha,by omega⟩
theorem qH3 {ws:List Wd} (hg:GoodW ws) {F:Nat} (hF:F<=100000) {l:List De} {q':Nat} (h:qCq ws F F [] 0=.inr (l,q')):BigP l:=by
 have:=qNt hg hF F (acc:=[]) (fun d hd=>by simp at hd) h
 simp only [List.length_nil] at this
 exact⟨by omega,this.1⟩
def qFI (ws:List Wd):Nat:=4 * ws.length+8
def qDn (s:List UInt8):Sum ((Int × Int) × Int) (List De):=
 if 8000<s.length then .inl ((0,0),3) else match qFf s with
 | .err p c=>.inl ((p.1,p.2),c)
 | .ok ws=>match qCq ws (qFI ws) (qFI ws) [] 0 with
  | .inl q=>.inl (((wat ws q).line,(wat ws q).col),381)
  | .inr (ds,_)=>if qBH ds=true then .inr ds else .inl ((0,0),3)
def qYN:Sum ((Int × Int) × Int) (List De)->List PV
 | .inl (p,e)=>[qCn [],i64 p.1,i64 p.2,i64 e]
 | .inr ds=>[qCn ds,i64 0,i64 0,i64 0]
def iO1 (n:Int):AObj:=⟨qVr,false, .bx [.p (i64 n)]⟩
def eO1 (n:Int):AObj:=⟨45,false, .bx [.p (i64 n)]⟩
theorem qE5 (s:List UInt8):∀ (f k:Nat) (acc:List Wd) (p:Nat × Nat) (c:Int),qEB f s k acc=.err p c->c=370∨c=3
 | 0,k,acc,p,c,e=>by
  rw [qEB] at e
  cases e
 | f+1,k,acc,p,c,e=>by
  rw [qEB] at e
  split at e
  ·injection e with _ e;exact .inl e.symm
  ·rw [qGm] at e
   split at e
   ·cases e
   ·split at e
    ·injection e with _ e;exact .inl e.symm
    ·split at e
     ·injection e with _ e;exact .inr e.symm
     ·exact qE5 s f _ _ p c e
abbrev qYL (N:Nat):Hp:=⟨N,[(3,eO1 0),(2,iO1 0),(1,iO1 0),(0,srO (.p .nils))]⟩
theorem qMU (s:List UInt8):Pure cx 22 [.str s] (·=.ret (qYN (qDn s))):=by
 have hRd:=qWV s
 refine qAC Tryz.func22 rfl rfl rfl ?_
 by_cases h0:8000<s.length
 ·rw [qC2,if_pos h0] at hRd
  refine hRd.eq rfl ?_
  have e:qDn s=.inl ((0,0),3):=by rw [qDn,if_pos h0]
  refine And.intro (fun h=>absurd (show(3:Int)=0 from h) (by decide)) (fun _=>?_)
  refine VDraw.seq rfl ?_
  refine⟨sk,?_⟩
  refine⟨sk,?_⟩
  refine⟨sk,?_⟩
  exact qKZ (qCn []) (i64 0) (i64 0) (i64 3) rfl ⟨_,rfl,_,_,rfl, .inr (.inr ⟨6,rfl⟩),rfl⟩ rfl rfl rfl (by rw [e];rfl)
 cases hr:qFf s with
 | err p c=>
  rw [qC2,if_neg h0,hr] at hRd
  refine hRd.eq rfl ?_
  have e:qDn s=.inl ((p.1,p.2),c):=by rw [qDn,if_neg h0,hr]
  have hc:¬ c=0:=by
   have:=qE5 s _ _ _ _ _ hr
   omega
  refine And.intro (fun h=>absurd (show c=0 from h) hc) (fun _=>?_)
  refine VDraw.seq rfl ?_
  refine⟨sk,?_⟩
  refine⟨sk,?_⟩
  refine⟨sk,?_⟩
  exact qKZ (qCn []) (i64 p.1) (i64 p.2) (i64 c) rfl ⟨_,rfl,_,_,rfl, .inr (.inr ⟨6,rfl⟩),rfl⟩ rfl rfl rfl (by rw [e];rfl)
 | ok ws=>
  have hg:=qGB hr
  have hl:=hg.len
  rw [qC2,if_neg h0,hr] at hRd
  refine hRd.eq rfl ?_
  refine And.intro (fun _=>?_) (fun h=>absurd rfl h)
  obtain⟨F,hF⟩:∃ F,F=qFI ws:=⟨_,rfl⟩
  have hF8:4 * ws.length+8<=F:=by rw [hF];exact Nat.le_refl _
  have hFb:F<=100000:=by rw [hF,qFI];omega
  have e:qDn s=match qCq ws F F [] 0 with
    | .inl q=>.inl (((wat ws q).line,(wat ws q).col),381)
    | .inr (ds,_)=>if qBH ds=true then .inr ds else .inl ((0,0),3):=by rw [qDn,if_neg h0,hr,hF]
  clear hF
  refine(qQd ws F 0 hF8 hg (Nat.zero_le _)).holds.useT [] [(0,4)] rfl (sk) (sk) fun e0 H0 hq=>?_
  rcases hp:qCq ws F F [] 0 with q | ⟨ds,q⟩
  ·rw [hp] at hq e
   obtain⟨rfl,rfl⟩:=hq
   refine⟨rfl,_,qYL 5,rfl,rfl,?_⟩
   refine qD0 Tryz.func54 rfl rfl rfl ?_
   refine VDraw.seq rfl ?_
   refine⟨sk,?_⟩
   refine⟨sk,?_⟩
   refine⟨[],[],[], .returned und,⟨5,[(3,eO1 381),(2,iO1 (wat ws q).col),(1,iO1 (wat ws q).line),(0,srO (.p .nils))]⟩,rfl,sk,sk,?_⟩
   exact qKZ (qCn []) (i64 (wat ws q).line) (i64 (wat ws q).col) (i64 381) rfl ⟨_,rfl,_,_,rfl, .inr (.inr ⟨6,rfl⟩),rfl⟩ rfl rfl rfl (by rw [e];rfl)
  ·rw [hp] at hq e
   obtain⟨hql,rfl,rfl⟩:=hq
   refine⟨rfl,_,⟨5,(4,psO ws q)::(qYL 5).l⟩,rfl,rfl,?_⟩
   have hC:=qKK ds (qH3 hg hFb hp)
   by_cases hv:qBH ds=true
   ·rw [qTO,if_pos hv] at hC
    refine hC.eq rfl ?_
    refine And.intro (fun _=>?_) (fun h=>absurd rfl h)
    have e:qDn s=.inr ds:=e.trans (if_pos hv)
    refine qD0 Tryz.func54 rfl rfl rfl ?_
    refine⟨[],[],[], .returned und,⟨5,[(3,eO1 0),(2,iO1 0),(1,iO1 0),(0,srO (.p (des ds)))]⟩,rfl,sk,sk,?_⟩
    exact qKZ (qCn ds) (i64 0) (i64 0) (i64 0) rfl rfl rfl rfl rfl (by rw [e];rfl)
   ·rw [qTO,if_neg hv] at hC
    refine hC.eq rfl ?_
    refine And.intro (fun h=>absurd (show(380:Int)=0 from h) (by decide)) (fun _=>?_)
    have e:qDn s=.inl ((0,0),3):=e.trans (if_neg hv)
    refine qD0 Tryz.func54 rfl rfl rfl ?_
    refine⟨[],[],[], .returned und,⟨5,[(3,eO1 3),(2,iO1 0),(1,iO1 0),(0,srO (.p .nils))]⟩,rfl,sk,sk,?_⟩
    exact qKZ (qCn []) (i64 0) (i64 0) (i64 3) rfl ⟨_,rfl,_,_,rfl, .inr (.inr ⟨6,rfl⟩),rfl⟩ rfl rfl rfl (by rw [e];rfl)
set_option maxHeartbeats 40000000
theorem qEj (n:Int):Pure cx 116 [i64 n] (·=.ret [.bool (qBt n)]):=by
 refine qAC Tryz.func116 rfl rfl rfl ?_
 refine QAD (fun h1=>?_) (fun h1=>?_)
 ·have h1:(0:Int)<=n:=h1
  refine QAD (fun h2=>?_) (fun h2=>?_)
  ·have h2:n<=9999:=h2
   exact qAG _ rfl rfl (qAO (by simp [qBt,h1,h2]))
  ·have h2:¬ n<=9999:=h2
   exact qAG _ rfl rfl (qAO (by simp [qBt,h2]))
 ·have h1:¬ (0:Int)<=n:=h1
  exact qAG _ rfl rfl (qAO (by simp [qBt,h1]))
theorem qTr (r:Rf) (hr:BigR r):Pure cx 159 [r.pv] (·=.ret [.bool (qBl r)]):=by
 refine qAC Tryz.func159 rfl rfl rfl ?_
 have hN:=qH1 r.name hr.name
 by_cases n1:qAj r.name=true
 rotate_left
 ·rw [Bool.not_eq_true] at n1
  rw [n1] at hN
  refine hN.eq rfl ?_
  exact qAG _ rfl rfl (qAO (by rw [qBl,n1];rfl))
 rw [n1] at hN
 refine hN.eq rfl ?_
 have hP:=qH1 r.plate hr.plate
 have hA:=qEj r.n
 refine QAD (fun h1=>?_) (fun h1=>?_)
 ·have h1:r.mode=0:=h1
  refine QAD (fun h2=>?_) (fun h2=>?_)
  ·have h2:r.plate=[]:=h2
   refine QAD (fun h3=>?_) (fun h3=>?_)
   ·have h3:r.n=0:=h3
    exact qAG _ rfl rfl (qAO (by simp [qBl,n1,h1,h2,h3]))
   ·have h3:¬ r.n=0:=h3
    exact qAG _ rfl rfl (qAO (by simp [qBl,n1,h1,h2,h3]))
  ·have h2:¬ r.plate=[]:=h2
   exact qAG _ rfl rfl (qAO (by simp [qBl,n1,h1,h2]))
 have h1:¬ r.mode=0:=h1
 refine QAD (fun h4=>?_) (fun h4=>?_)
 ·have h4:r.mode=3:=h4
  refine QAD (fun h2=>?_) (fun h2=>?_)
  ·have h2:r.plate=[]:=h2
   refine QAD (fun h3=>?_) (fun h3=>?_)
   ·have h3:r.n=0:=h3
    exact qAG _ rfl rfl (qAO (by simp [qBl,n1,h4,h2,h3]))
   ·have h3:¬ r.n=0:=h3
    exact qAG _ rfl rfl (qAO (by simp [qBl,n1,h4,h2,h3]))
  ·have h2:¬ r.plate=[]:=h2
   exact qAG _ rfl rfl (qAO (by simp [qBl,n1,h4,h2]))
 have h4:¬ r.mode=3:=h4
 refine QAD (fun h5=>?_) (fun h5=>?_)
 ·have h5:r.mode=1:=h5
  by_cases n2:qAj r.plate=true
  ·rw [n2] at hP
   refine hP.eq rfl ?_
   refine hA.eq rfl ?_
   exact qAG _ rfl rfl (qAO (by simp [qBl,n1,n2,h5]))
  ·rw [Bool.not_eq_true] at n2
   rw [n2] at hP
   refine hP.eq rfl ?_
   exact qAG _ rfl rfl (qAO (by simp [qBl,n1,n2,h5]))
 have h5:¬ r.mode=1:=h5
 refine QAD (fun h6=>?_) (fun h6=>?_)
 ·have h6:r.mode=2:=h6
  refine QAD (fun h2=>?_) (fun h2=>?_)
  ·have h2:r.plate=[]:=h2
   refine hA.eq rfl ?_
   exact qAG _ rfl rfl (qAO (by simp [qBl,n1,h6,h2]))
  ·have h2:¬ r.plate=[]:=h2
   exact qAG _ rfl rfl (qAO (by simp [qBl,n1,h6,h2]))
 have h6:¬ r.mode=2:=h6
 exact qAG _ rfl rfl (qAO (by simp [qBl,h1,h4,h5,h6]))
theorem qUe (op n rel val:Int) (r:Rf) (st:List Int) (ar:List Cd) (hr:BigR r) (hs:st.length<=9223372036854775807):Pure cx 186 [(Cd.mk op n rel val r st ar).pv] (·=.ret [.bool (qAQ op n rel val r st)]):=by
 refine qAC Tryz.func186 rfl rfl rfl ?_
 have hRf:=qTr r hr
 have hNn:=qEj n
 have hNv:=qEj val
 have hm:(st.map i64).length=st.length:=List.length_map ..
 refine QAD (fun o1=>?_) (fun o1=>?_)
 ·have o1:op=1:=o1
  by_cases r1:qBl r=true
  rotate_left
  ·rw [Bool.not_eq_true] at r1
   rw [r1] at hRf
   refine hRf.eq rfl ?_
   exact qAG _ rfl rfl (qAO (by simp [qAQ, *]))
  rw [r1] at hRf
  refine hRf.eq rfl ?_
  by_cases r2:qBt n=true
  rotate_left
  ·rw [Bool.not_eq_true] at r2
   rw [r2] at hNn
   refine hNn.eq rfl ?_
   exact qAG _ rfl rfl (qAO (by simp [qAQ, *]))
  rw [r2] at hNn
  refine hNn.eq rfl ?_
  refine QAD (fun r3=>?_) (fun r3=>?_)
  rotate_left
  ·have r3:¬ rel=0:=r3
   exact qAG _ rfl rfl (qAO (by simp [qAQ, *]))
  have r3:rel=0:=r3
  refine QAD (fun r4=>?_) (fun r4=>?_)
  rotate_left
  ·have r4:¬ val=0:=r4
   exact qAG _ rfl rfl (qAO (by simp [qAQ, *]))
  have r4:val=0:=r4
  refine QAD (fun r9=>?_) (fun r9=>?_)
  rotate_left
  ·have r9:¬ ((st.map i64).length:Int)=0:=r9
   have r9:¬ st=[]:=fun e=>r9 (by rw [e];rfl)
   exact qAG _ rfl rfl (qAO (by simp [qAQ, *]))
  have r9:((st.map i64).length:Int)=0:=r9
  have r9:st=[]:=by rw [List.length_map] at r9;exact List.length_eq_zero_iff.1 (by omega)
  exact qAG _ rfl rfl (qAO (by simp [qAQ, *]))
 have o1:¬ op=1:=o1
 refine QAD (fun o2=>?_) (fun o2=>?_)
 ·have o2:op=2:=o2
  by_cases r1:qBl r=true
  rotate_left
  ·rw [Bool.not_eq_true] at r1
   rw [r1] at hRf
   refine hRf.eq rfl ?_
   exact qAG _ rfl rfl (qAO (by simp [qAQ, *]))
  rw [r1] at hRf
  refine hRf.eq rfl ?_
  by_cases r2:qBt n=true
  rotate_left
  ·rw [Bool.not_eq_true] at r2
   rw [r2] at hNn
   refine hNn.eq rfl ?_
   exact qAG _ rfl rfl (qAO (by simp [qAQ, *]))
  rw [r2] at hNn
  refine hNn.eq rfl ?_
  refine QAD (fun r3=>?_) (fun r3=>?_)
  rotate_left
  ·have r3:¬ rel=0:=r3
   exact qAG _ rfl rfl (qAO (by simp [qAQ, *]))
  have r3:rel=0:=r3
  refine QAD (fun r4=>?_) (fun r4=>?_)
  rotate_left
  ·have r4:¬ val=0:=r4
   exact qAG _ rfl rfl (qAO (by simp [qAQ, *]))
  have r4:val=0:=r4
  refine QAD (fun r9=>?_) (fun r9=>?_)
  rotate_left
  ·have r9:¬ ((st.map i64).length:Int)=0:=r9
   have r9:¬ st=[]:=fun e=>r9 (by rw [e];rfl)
   exact qAG _ rfl rfl (qAO (by simp [qAQ, *]))
  have r9:((st.map i64).length:Int)=0:=r9
  have r9:st=[]:=by rw [List.length_map] at r9;exact List.length_eq_zero_iff.1 (by omega)
  exact qAG _ rfl rfl (qAO (by simp [qAQ, *]))
 have o2:¬ op=2:=o2
 refine QAD (fun o3=>?_) (fun o3=>?_)
 ·have o3:op=3:=o3
  by_cases r1:qBl r=true
  rotate_left
  ·rw [Bool.not_eq_true] at r1
   rw [r1] at hRf
   refine hRf.eq rfl ?_
   exact qAG _ rfl rfl (qAO (by simp [qAQ, *]))
  rw [r1] at hRf
  refine hRf.eq rfl ?_
  by_cases r2:qBt n=true
  rotate_left
  ·rw [Bool.not_eq_true] at r2
   rw [r2] at hNn
   refine hNn.eq rfl ?_
   exact qAG _ rfl rfl (qAO (by simp [qAQ, *]))
  rw [r2] at hNn
  refine hNn.eq rfl ?_
  refine QAD (fun r3=>?_) (fun r3=>?_)
  rotate_left
  ·have r3:¬ rel=0:=r3
   exact qAG _ rfl rfl (qAO (by simp [qAQ, *]))
  have r3:rel=0:=r3
  refine QAD (fun r4=>?_) (fun r4=>?_)
  rotate_left
  ·have r4:¬ val=0:=r4
   exact qAG _ rfl rfl (qAO (by simp [qAQ, *]))
  have r4:val=0:=r4
  refine QAD (fun r9=>?_) (fun r9=>?_)
  rotate_left
  ·have r9:¬ ((st.map i64).length:Int)=0:=r9
   have r9:¬ st=[]:=fun e=>r9 (by rw [e];rfl)
   exact qAG _ rfl rfl (qAO (by simp [qAQ, *]))
  have r9:((st.map i64).length:Int)=0:=r9
  have r9:st=[]:=by rw [List.length_map] at r9;exact List.length_eq_zero_iff.1 (by omega)
  exact qAG _ rfl rfl (qAO (by simp [qAQ, *]))
 have o3:¬ op=3:=o3
 refine QAD (fun o4=>?_) (fun o4=>?_)
 ·have o4:op=4:=o4
  by_cases r1:qBl r=true
  rotate_left
  ·rw [Bool.not_eq_true] at r1
   rw [r1] at hRf
   refine hRf.eq rfl ?_
   exact qAG _ rfl rfl (qAO (by simp [qAQ, *]))
  rw [r1] at hRf
  refine hRf.eq rfl ?_
  by_cases r2:qBt n=true
  rotate_left
  ·rw [Bool.not_eq_true] at r2
   rw [r2] at hNn
   refine hNn.eq rfl ?_
   exact qAG _ rfl rfl (qAO (by simp [qAQ, *]))
  rw [r2] at hNn
  refine hNn.eq rfl ?_
  refine QAD (fun r3=>?_) (fun r3=>?_)
  rotate_left
  ·have r3:¬ rel=0:=r3
   exact qAG _ rfl rfl (qAO (by simp [qAQ, *]))
  have r3:rel=0:=r3
  refine QAD (fun r4=>?_) (fun r4=>?_)
  rotate_left
  ·have r4:¬ val=0:=r4
   exact qAG _ rfl rfl (qAO (by simp [qAQ, *]))
  have r4:val=0:=r4
  refine QAD (fun r9=>?_) (fun r9=>?_)
  rotate_left
  ·have r9:¬ ((st.map i64).length:Int)=0:=r9
   have r9:¬ st=[]:=fun e=>r9 (by rw [e];rfl)
   exact qAG _ rfl rfl (qAO (by simp [qAQ, *]))
  have r9:((st.map i64).length:Int)=0:=r9
  have r9:st=[]:=by rw [List.length_map] at r9;exact List.length_eq_zero_iff.1 (by omega)
  exact qAG _ rfl rfl (qAO (by simp [qAQ, *]))
 have o4:¬ op=4:=o4
 refine QAD (fun o5=>?_) (fun o5=>?_)
 rotate_left
 ·have o5:¬ op=5:=o5
  refine QAD (fun o6=>?_) (fun o6=>?_)
  rotate_left
  ·have o6:¬ op=6:=o6
   exact qAG _ rfl rfl (qAO (by simp [qAQ, *]))
  have o6:op=6:=o6
  by_cases r1:qBl r=true
  rotate_left
  ·rw [Bool.not_eq_true] at r1
   rw [r1] at hRf
   refine hRf.eq rfl ?_
   exact qAG _ rfl rfl (qAO (by simp [qAQ, *]))
  rw [r1] at hRf
  refine hRf.eq rfl ?_
  refine QAD (fun r2=>?_) (fun r2=>?_)
  rotate_left
  ·have r2:¬ r.mode=3:=r2
   exact qAG _ rfl rfl (qAO (by simp [qAQ, *]))
  have r2:r.mode=3:=r2
  by_cases r3:qBt val=true
  rotate_left
  ·rw [Bool.not_eq_true] at r3
   rw [r3] at hNv
   refine hNv.eq rfl ?_
   exact qAG _ rfl rfl (qAO (by simp [qAQ, *]))
  rw [r3] at hNv
  refine hNv.eq rfl ?_
  by_cases r4:qBt n=true
  rotate_left
  ·rw [Bool.not_eq_true] at r4
   rw [r4] at hNn
   refine hNn.eq rfl ?_
   exact qAG _ rfl rfl (qAO (by simp [qAQ, *]))
  rw [r4] at hNn
  refine hNn.eq rfl ?_
  refine QAD (fun r5=>?_) (fun r5=>?_)
  rotate_left
  ·have r5:¬ (1:Int)<=rel:=r5
   exact qAG _ rfl rfl (qAO (by simp [qAQ, *]))
  have r5:(1:Int)<=rel:=r5
  refine QAD (fun r6=>?_) (fun r6=>?_)
  rotate_left
  ·have r6:¬ rel<=4:=r6
   exact qAG _ rfl rfl (qAO (by simp [qAQ, *]))
  have r6:rel<=4:=r6
  refine QAD (fun r9=>?_) (fun r9=>?_)
  rotate_left
  ·have r9:¬ ((st.map i64).length:Int)=0:=r9
   have r9:¬ st=[]:=fun e=>r9 (by rw [e];rfl)
   exact qAG _ rfl rfl (qAO (by simp [qAQ, *]))
  have r9:((st.map i64).length:Int)=0:=r9
  have r9:st=[]:=by rw [List.length_map] at r9;exact List.length_eq_zero_iff.1 (by omega)
  exact qAG _ rfl rfl (qAO (by simp [qAQ, *]))
 have o5:op=5:=o5
 have hno:qHr st=false->qAQ op n rel val r st=false:=fun h=>by simp [qAQ, *]
 refine QAD (fun h1=>?_) (fun h1=>?_)
 ·have h1:((st.map i64).length:Int)<1:=h1
  rw [hm] at h1
  exact qAG _ rfl rfl (qAO (hno (by rw [qHr,decide_eq_false (by omega)];rfl)).symm)
 have h1:¬ ((st.map i64).length:Int)<1:=h1
 rw [hm] at h1
 refine QAD (fun h2=>?_) (fun h2=>?_)
 ·have h2:(8:Int)<((st.map i64).length:Nat):=h2
  rw [hm] at h2
  exact qAG _ rfl rfl (qAO (hno (by rw [qHr,decide_eq_false (show ¬ st.length<=8 by omega),Bool.and_false];rfl)).symm)
 have h2:¬ (8:Int)<((st.map i64).length:Nat):=h2
 rw [hm] at h2
 have hB0:qHr st=qPj st (st.length - 0) 0:=by rw [qHr,decide_eq_true (show 1<=st.length by omega),decide_eq_true (show st.length<=8 by omega)];rfl
 refine⟨Nat,fun k=>[(1, .ptr 0 0 0),(3, .p (i64 k))],fun _=>⟨1,[(0,cO ((Cd.mk op n rel val r st ar).cells.map .p))]⟩,fun k=>k<=st.length/\qHr st=qPj st (st.length - k) k,fun k=>st.length - k,?_,?_⟩
 ·exact⟨0,⟨Nat.zero_le _,hB0⟩,qAB [] [] [] rfl (sk) (sk) rfl⟩
 rintro k ⟨k1,k2⟩
 clear hB0
 refine QAD (fun h3=>?_) (fun h3=>?_)
 rotate_left
 ·have h3:¬ (k:Int)<((st.map i64).length:Nat):=h3
  rw [hm] at h3
  rw [show st.length - k=0 by omega,qPj] at k2
  by_cases r1:qBl r=true
  rotate_left
  ·rw [Bool.not_eq_true] at r1
   rw [r1] at hRf
   refine hRf.eq rfl ?_
   exact qAG _ rfl rfl (qAO (by simp [qAQ, *]))
  rw [r1] at hRf
  refine hRf.eq rfl ?_
  refine QAD (fun r2=>?_) (fun r2=>?_)
  rotate_left
  ·have r2:¬ n=0:=r2
   exact qAG _ rfl rfl (qAO (by simp [qAQ, *]))
  have r2:n=0:=r2
  refine QAD (fun r3=>?_) (fun r3=>?_)
  rotate_left
  ·have r3:¬ rel=0:=r3
   exact qAG _ rfl rfl (qAO (by simp [qAQ, *]))
  have r3:rel=0:=r3
  refine QAD (fun r4=>?_) (fun r4=>?_)
  rotate_left
  ·have r4:¬ val=0:=r4
   exact qAG _ rfl rfl (qAO (by simp [qAQ, *]))
  have r4:val=0:=r4
  exact qAG _ rfl rfl (qAO (by simp [qAQ, *]))
 have h3:(k:Int)<((st.map i64).length:Nat):=h3
 rw [hm] at h3
 have hk:k<st.length:=by omega
 obtain⟨f,hf⟩:∃ f,st.length - k=f+1:=⟨st.length - k - 1,by omega⟩
 rw [hf,qPj] at k2
 refine VDraw.seq rfl ?_
 refine⟨_,⟨by omega,i64 (st.getD k 0),qGM hk,rfl⟩,?_⟩
 have hN:=qEj (st.getD k 0)
 by_cases n1:qBt (st.getD k 0)=true
 rotate_left
 ·rw [Bool.not_eq_true] at n1
  rw [n1] at hN k2
  refine hN.eq rfl ?_
  exact qAG _ rfl rfl (qAO (hno (by rw [k2];simp)).symm)
 rw [n1] at hN k2
 refine hN.eq rfl ?_
 refine QAD (fun h4=>?_) (fun h4=>?_)
 ·have h4:(0:Int)<(k:Nat):=h4
  obtain⟨j,rfl⟩:∃ j,k=j+1:=⟨k - 1,by omega⟩
  refine⟨_,⟨by omega,i64 (st.getD (j+1) 0),qGM hk,rfl⟩,?_⟩
  refine⟨(j:Int),by rw [show((j+1:Nat):Int) - 1=(j:Int) by omega];exact w6z,?_⟩
  refine⟨_,⟨by omega,i64 (st.getD j 0),qGM (by omega),rfl⟩,?_⟩
  refine QAD (fun h5=>?_) (fun h5=>?_)
  ·have h5:st.getD (j+1) 0<=st.getD j 0:=h5
   exact qAG _ rfl rfl (qAO (hno (by rw [k2,Nat.add_sub_cancel,decide_eq_false (show ¬ st.getD j 0<st.getD (j+1) 0 by omega),decide_eq_false (by omega)];rfl)).symm)
  ·have h5:¬ st.getD (j+1) 0<=st.getD j 0:=h5
   refine⟨_,w6z,?_⟩
   exact⟨j+1+1,⟨by omega,by rw [k2,Nat.add_sub_cancel,decide_eq_true (show st.getD j 0<st.getD (j+1) 0 by omega),Bool.or_true,show st.length - (j+1+1)=f by omega];rfl⟩,qAB [] [] [] rfl (sk) (sk) rfl,by show st.length - (j+1+1)<st.length - (j+1);omega⟩
 ·have h4:¬ (0:Int)<(k:Nat):=h4
  have hk0:k=0:=by omega
  subst hk0
  refine⟨_,w6z,?_⟩
  exact⟨0+1,⟨by omega,by rw [k2,show st.length - (0+1)=f by omega];rfl⟩,qAB [] [] [] rfl (sk) (sk) rfl,by show st.length - (0+1)<st.length - 0;omega⟩
def qYr:Option Nat->Int
 | some l=>(l:Int)
 | none=>-1
def qYJ (d:Nat):Prop:=∀ (c:Cd) (left p:Nat),qC1 c->left<=1000->p+d=9->Pure cx 162 [c.pv,i64 left,i64 p] (·=.ret [i64 (qYr (qAs d c left))])
theorem qSe {r:Rf} (h4:r.cells=rf0.cells):r=rf0:=by
 obtain⟨a,b,c,d⟩:=r
 simp only [Rf.cells,rf0,List.cons.injEq,PV.str.injEq,PV.int.injEq,true_and,and_true] at h4
 obtain⟨rfl,rfl,rfl,rfl⟩:=h4
 rfl
theorem qVa (d:Nat) (ih:qYJ d):qYJ (d+1):=by
 rintro⟨op,n,rel,val,r,st,ar⟩ left p hb hl hp9
 simp only [qC1] at hb
 obtain⟨hb1,hb2,hb3,hb4⟩:=hb
 have hT:=qUe op n rel val r st ar hb1 hb2
 have epv:(Cd.mk op n rel val r st ar).pv=.agg [i64 op,i64 n,i64 rel,i64 val, .str r.name,i64 r.mode, .str r.plate,i64 r.n,ints st,cds ar]:=by
  show PV.agg [i64 op,i64 n,i64 rel,i64 val, .str r.name,i64 r.mode, .str r.plate,i64 r.n,ints st, .lsts 10 (qBX ar)]=_
  rw [qBw]
 rw [epv] at hT ⊢
 generalize hR:qAs (d+1) (.mk op n rel val r st ar) left=R
 rw [qAs] at hR
 refine qAC Tryz.func162 rfl rfl rfl ?_
 rcases Nat.eq_zero_or_pos left with h0 | h0
 ·subst h0
  rw [if_pos rfl] at hR
  refine And.intro (fun _=>?_) (fun h=>absurd (show(0:Int)<1 by decide) h)
  exact qAG _ rfl rfl (qE4 (by rw [<- hR];rfl))
 obtain⟨m,rfl⟩:∃ m,left=m+1:=⟨left - 1,by omega⟩
 rw [if_neg (by omega),Nat.add_sub_cancel] at hR
 have hno:qAb op n rel val r st ar.length=false->R=none:=fun h=>by rw [<- hR,if_neg (by rw [h];decide)]
 have hyes:qAb op n rel val r st ar.length=true->ar.foldlM (fun l c=>qAs d c l) m=R:=fun h=>by rw [<- hR,if_pos h]
 clear hR
 refine And.intro (fun h=>absurd (show((m+1:Nat):Int)<1 from h) (by omega)) (fun _=>?_)
 refine And.intro (fun h=>absurd (show(8:Int)<(p:Nat) from h) (by omega)) (fun _=>?_)
 refine QAD (fun o7=>?_) (fun o7=>?_)
 ·have o7:op=7:=o7
  by_cases hk:ar.length=1
  rotate_left
  ·refine And.intro (fun h=>absurd (show((ar.map Cd.cells).length:Int)=1 from h) (by rw [List.length_map];omega)) (fun _=>?_)
   exact qAG _ rfl rfl (qE4 (by rw [hno (by simp [qAb,qAc, *])];rfl))
  refine And.intro (fun _=>?_) (fun h=>absurd (show((ar.map Cd.cells).length:Int)=1 by rw [List.length_map];omega) h)
  refine And.intro (fun h=>absurd (show(1:Int)=0 from h) (by decide)) (fun _=>?_)
  refine And.intro (fun r1=>?_) (fun r1=>?_)
  rotate_left
  ·have r1:¬ n=0:=r1
   exact qAG _ rfl rfl (qE4 (by rw [hno (by simp [qAb,qAc,qA1, *])];rfl))
  have r1:n=0:=r1
  refine And.intro (fun r2=>?_) (fun r2=>?_)
  rotate_left
  ·have r2:¬ rel=0:=r2
   exact qAG _ rfl rfl (qE4 (by rw [hno (by simp [qAb,qAc,qA1, *])];rfl))
  have r2:rel=0:=r2
  refine And.intro (fun r3=>?_) (fun r3=>?_)
  rotate_left
  ·have r3:¬ val=0:=r3
   exact qAG _ rfl rfl (qE4 (by rw [hno (by simp [qAb,qAc,qA1, *])];rfl))
  have r3:val=0:=r3
  refine⟨⟨by kernel_rfl,by kernel_rfl⟩,fun r4=>?_,fun r4=>?_⟩
  rotate_left
  ·have r4:¬ r=rf0:=fun e=>r4 (by rw [e];rfl)
   exact qAG _ rfl rfl (qE4 (by rw [hno (by simp [qAb,qAc,qA1, *])];rfl))
  have r4:r=rf0:=qSe (by first | exact r4 | (injection r4))
  refine And.intro (fun r5=>?_) (fun r5=>?_)
  rotate_left
  ·have r5:¬ ((st.map i64).length:Int)=0:=r5
   have r5:¬ st=[]:=fun e=>r5 (by rw [e];rfl)
   exact qAG _ rfl rfl (qE4 (by rw [hno (by simp [qAb,qAc,qA1, *])];rfl))
  have r5:((st.map i64).length:Int)=0:=r5
  have r5:st=[]:=by rw [List.length_map] at r5;exact List.length_eq_zero_iff.1 (by omega)
  have hy:=hyes (by simp [qAb,qAc,qA1, *])
  refine⟨(m:Int),by rw [show((m+1:Nat):Int) - 1=(m:Int) by omega];exact w6z,?_⟩
  refine⟨Nat × Nat,fun x=>[(1, .p (i64 x.2)),(2, .p (i64 p)),(3, .ptr 0 0 0),(7, .p (i64 1)),(8, .p (i64 x.1))],fun x=>⟨1,[(0,cO [.p (i64 op), .p (i64 n), .p (i64 rel), .p (i64 val), .p (.str r.name), .p (i64 r.mode), .p (.str r.plate), .p (i64 r.n), .p (ints st), .p (cds ar)])]⟩,fun x=>x.1<=ar.length/\x.2<=1000/\(ar.drop x.1).foldlM (fun l c=>qAs d c l) x.2=R,fun x=>ar.length - x.1,?_,?_⟩
  ·exact⟨(0,m),⟨Nat.zero_le _,by simp only [];omega,hy⟩,qAB [] [] [] rfl (sk) (sk) rfl⟩
  rintro⟨i,l⟩ ⟨i1,i2,i3⟩
  simp only [] at i1 i2 i3
  refine QAD (fun j1=>?_) (fun j1=>?_)
  rotate_left
  ·have j1:¬ (i:Int)<1:=j1
   rw [List.drop_eq_nil_of_le (by omega),List.foldlM_nil] at i3
   exact qAG _ rfl rfl (qE4 (by rw [<- i3];rfl))
  have j1:(i:Int)<1:=j1
  have hi:i<ar.length:=by omega
  rw [qEu cd0 hi,List.foldlM_cons] at i3
  have hbx:=qBV hb4 (qAL cd0 hi)
  have hcell:=qDU hi
  rcases hx:ar.getD i cd0 with ⟨o',n',rl',vl',rf',st',ar'⟩
  rw [hx] at i3 hbx hcell
  refine⟨_,⟨by omega,(Cd.mk o' n' rl' vl' rf' st' ar').cells,hcell,rfl⟩,?_⟩
  refine⟨((p+1:Nat):Int),w6z,?_⟩
  have hrec:=ih (.mk o' n' rl' vl' rf' st' ar') l (p+1) hbx (by omega) (by omega)
  rcases hv:qAs d (.mk o' n' rl' vl' rf' st' ar') l with _ | l2
  ·rw [hv] at hrec i3
   refine hrec.eq rfl ?_
   refine And.intro (fun _=>?_) (fun h=>absurd (show(-1:Int)<0 by decide) h)
   exact qAG _ rfl rfl (qE4 (by rw [<- i3];rfl))
  ·have hle:=qB8 _ _ _ _ hv
   rw [hv] at hrec i3
   refine hrec.eq rfl ?_
   refine And.intro (fun h=>absurd (show(l2:Int)<0 from h) (by omega)) (fun _=>?_)
   refine⟨_,w6z,?_⟩
   exact⟨(i+1,l2),⟨by simp only [];omega,by simp only [];omega,i3⟩,qAB [] [] [] rfl (sk) (sk) rfl,by show ar.length - (i+1)<ar.length - i;omega⟩
 have o7:¬ op=7:=o7
 refine QAD (fun o8=>?_) (fun o8=>?_)
 ·have o8:op=8:=o8
  by_cases hk:ar.length=2
  rotate_left
  ·refine And.intro (fun h=>absurd (show((ar.map Cd.cells).length:Int)=2 from h) (by rw [List.length_map];omega)) (fun _=>?_)
   exact qAG _ rfl rfl (qE4 (by rw [hno (by simp [qAb,qAc, *])];rfl))
  refine And.intro (fun _=>?_) (fun h=>absurd (show((ar.map Cd.cells).length:Int)=2 by rw [List.length_map];omega) h)
  refine And.intro (fun h=>absurd (show(2:Int)=0 from h) (by decide)) (fun _=>?_)
  refine And.intro (fun r1=>?_) (fun r1=>?_)
  rotate_left
  ·have r1:¬ n=0:=r1
   exact qAG _ rfl rfl (qE4 (by rw [hno (by simp [qAb,qAc,qA1, *])];rfl))
  have r1:n=0:=r1
  refine And.intro (fun r2=>?_) (fun r2=>?_)
  rotate_left
  ·have r2:¬ rel=0:=r2
   exact qAG _ rfl rfl (qE4 (by rw [hno (by simp [qAb,qAc,qA1, *])];rfl))
  have r2:rel=0:=r2
  refine And.intro (fun r3=>?_) (fun r3=>?_)
  rotate_left
  ·have r3:¬ val=0:=r3
   exact qAG _ rfl rfl (qE4 (by rw [hno (by simp [qAb,qAc,qA1, *])];rfl))
  have r3:val=0:=r3
  refine⟨⟨by kernel_rfl,by kernel_rfl⟩,fun r4=>?_,fun r4=>?_⟩
  rotate_left
  ·have r4:¬ r=rf0:=fun e=>r4 (by rw [e];rfl)
   exact qAG _ rfl rfl (qE4 (by rw [hno (by simp [qAb,qAc,qA1, *])];rfl))
  have r4:r=rf0:=qSe (by first | exact r4 | (injection r4))
  refine And.intro (fun r5=>?_) (fun r5=>?_)
  rotate_left
  ·have r5:¬ ((st.map i64).length:Int)=0:=r5
   have r5:¬ st=[]:=fun e=>r5 (by rw [e];rfl)
   exact qAG _ rfl rfl (qE4 (by rw [hno (by simp [qAb,qAc,qA1, *])];rfl))
  have r5:((st.map i64).length:Int)=0:=r5
  have r5:st=[]:=by rw [List.length_map] at r5;exact List.length_eq_zero_iff.1 (by omega)
  have hy:=hyes (by simp [qAb,qAc,qA1, *])
  refine⟨(m:Int),by rw [show((m+1:Nat):Int) - 1=(m:Int) by omega];exact w6z,?_⟩
  refine⟨Nat × Nat,fun x=>[(1, .p (i64 x.2)),(2, .p (i64 p)),(3, .ptr 0 0 0),(7, .p (i64 2)),(8, .p (i64 x.1))],fun x=>⟨1,[(0,cO [.p (i64 op), .p (i64 n), .p (i64 rel), .p (i64 val), .p (.str r.name), .p (i64 r.mode), .p (.str r.plate), .p (i64 r.n), .p (ints st), .p (cds ar)])]⟩,fun x=>x.1<=ar.length/\x.2<=1000/\(ar.drop x.1).foldlM (fun l c=>qAs d c l) x.2=R,fun x=>ar.length - x.1,?_,?_⟩
  ·exact⟨(0,m),⟨Nat.zero_le _,by simp only [];omega,hy⟩,qAB [] [] [] rfl (sk) (sk) rfl⟩
  rintro⟨i,l⟩ ⟨i1,i2,i3⟩
  simp only [] at i1 i2 i3
  refine QAD (fun j1=>?_) (fun j1=>?_)
  rotate_left
  ·have j1:¬ (i:Int)<2:=j1
   rw [List.drop_eq_nil_of_le (by omega),List.foldlM_nil] at i3
   exact qAG _ rfl rfl (qE4 (by rw [<- i3];rfl))
  have j1:(i:Int)<2:=j1
  have hi:i<ar.length:=by omega
  rw [qEu cd0 hi,List.foldlM_cons] at i3
  have hbx:=qBV hb4 (qAL cd0 hi)
  have hcell:=qDU hi
  rcases hx:ar.getD i cd0 with ⟨o',n',rl',vl',rf',st',ar'⟩
  rw [hx] at i3 hbx hcell
  refine⟨_,⟨by omega,(Cd.mk o' n' rl' vl' rf' st' ar').cells,hcell,rfl⟩,?_⟩
  refine⟨((p+1:Nat):Int),w6z,?_⟩
  have hrec:=ih (.mk o' n' rl' vl' rf' st' ar') l (p+1) hbx (by omega) (by omega)
  rcases hv:qAs d (.mk o' n' rl' vl' rf' st' ar') l with _ | l2
  ·rw [hv] at hrec i3
   refine hrec.eq rfl ?_
   refine And.intro (fun _=>?_) (fun h=>absurd (show(-1:Int)<0 by decide) h)
   exact qAG _ rfl rfl (qE4 (by rw [<- i3];rfl))
  ·have hle:=qB8 _ _ _ _ hv
   rw [hv] at hrec i3
   refine hrec.eq rfl ?_
   refine And.intro (fun h=>absurd (show(l2:Int)<0 from h) (by omega)) (fun _=>?_)
   refine⟨_,w6z,?_⟩
   exact⟨(i+1,l2),⟨by simp only [];omega,by simp only [];omega,i3⟩,qAB [] [] [] rfl (sk) (sk) rfl,by show ar.length - (i+1)<ar.length - i;omega⟩
 have o8:¬ op=8:=o8
 refine QAD (fun o9=>?_) (fun o9=>?_)
 ·have o9:op=9:=o9
  by_cases hk:ar.length=2
  rotate_left
  ·refine And.intro (fun h=>absurd (show((ar.map Cd.cells).length:Int)=2 from h) (by rw [List.length_map];omega)) (fun _=>?_)
   exact qAG _ rfl rfl (qE4 (by rw [hno (by simp [qAb,qAc, *])];rfl))
  refine And.intro (fun _=>?_) (fun h=>absurd (show((ar.map Cd.cells).length:Int)=2 by rw [List.length_map];omega) h)
  refine And.intro (fun h=>absurd (show(2:Int)=0 from h) (by decide)) (fun _=>?_)
  refine And.intro (fun r1=>?_) (fun r1=>?_)
  rotate_left
  ·have r1:¬ n=0:=r1
   exact qAG _ rfl rfl (qE4 (by rw [hno (by simp [qAb,qAc,qA1, *])];rfl))
  have r1:n=0:=r1
  refine And.intro (fun r2=>?_) (fun r2=>?_)
  rotate_left
  ·have r2:¬ rel=0:=r2
   exact qAG _ rfl rfl (qE4 (by rw [hno (by simp [qAb,qAc,qA1, *])];rfl))
  have r2:rel=0:=r2
  refine And.intro (fun r3=>?_) (fun r3=>?_)
  rotate_left
  ·have r3:¬ val=0:=r3
   exact qAG _ rfl rfl (qE4 (by rw [hno (by simp [qAb,qAc,qA1, *])];rfl))
  have r3:val=0:=r3
  refine⟨⟨by kernel_rfl,by kernel_rfl⟩,fun r4=>?_,fun r4=>?_⟩
  rotate_left
  ·have r4:¬ r=rf0:=fun e=>r4 (by rw [e];rfl)
   exact qAG _ rfl rfl (qE4 (by rw [hno (by simp [qAb,qAc,qA1, *])];rfl))
  have r4:r=rf0:=qSe (by first | exact r4 | (injection r4))
  refine And.intro (fun r5=>?_) (fun r5=>?_)
  rotate_left
  ·have r5:¬ ((st.map i64).length:Int)=0:=r5
   have r5:¬ st=[]:=fun e=>r5 (by rw [e];rfl)
   exact qAG _ rfl rfl (qE4 (by rw [hno (by simp [qAb,qAc,qA1, *])];rfl))
  have r5:((st.map i64).length:Int)=0:=r5
  have r5:st=[]:=by rw [List.length_map] at r5;exact List.length_eq_zero_iff.1 (by omega)
  have hy:=hyes (by simp [qAb,qAc,qA1, *])
  refine⟨(m:Int),by rw [show((m+1:Nat):Int) - 1=(m:Int) by omega];exact w6z,?_⟩
  refine⟨Nat × Nat,fun x=>[(1, .p (i64 x.2)),(2, .p (i64 p)),(3, .ptr 0 0 0),(7, .p (i64 2)),(8, .p (i64 x.1))],fun x=>⟨1,[(0,cO [.p (i64 op), .p (i64 n), .p (i64 rel), .p (i64 val), .p (.str r.name), .p (i64 r.mode), .p (.str r.plate), .p (i64 r.n), .p (ints st), .p (cds ar)])]⟩,fun x=>x.1<=ar.length/\x.2<=1000/\(ar.drop x.1).foldlM (fun l c=>qAs d c l) x.2=R,fun x=>ar.length - x.1,?_,?_⟩
  ·exact⟨(0,m),⟨Nat.zero_le _,by simp only [];omega,hy⟩,qAB [] [] [] rfl (sk) (sk) rfl⟩
  rintro⟨i,l⟩ ⟨i1,i2,i3⟩
  simp only [] at i1 i2 i3
  refine QAD (fun j1=>?_) (fun j1=>?_)
  rotate_left
  ·have j1:¬ (i:Int)<2:=j1
   rw [List.drop_eq_nil_of_le (by omega),List.foldlM_nil] at i3
   exact qAG _ rfl rfl (qE4 (by rw [<- i3];rfl))
  have j1:(i:Int)<2:=j1
  have hi:i<ar.length:=by omega
  rw [qEu cd0 hi,List.foldlM_cons] at i3
  have hbx:=qBV hb4 (qAL cd0 hi)
  have hcell:=qDU hi
  rcases hx:ar.getD i cd0 with ⟨o',n',rl',vl',rf',st',ar'⟩
  rw [hx] at i3 hbx hcell
  refine⟨_,⟨by omega,(Cd.mk o' n' rl' vl' rf' st' ar').cells,hcell,rfl⟩,?_⟩
  refine⟨((p+1:Nat):Int),w6z,?_⟩
  have hrec:=ih (.mk o' n' rl' vl' rf' st' ar') l (p+1) hbx (by omega) (by omega)
  rcases hv:qAs d (.mk o' n' rl' vl' rf' st' ar') l with _ | l2
  ·rw [hv] at hrec i3
   refine hrec.eq rfl ?_
   refine And.intro (fun _=>?_) (fun h=>absurd (show(-1:Int)<0 by decide) h)
   exact qAG _ rfl rfl (qE4 (by rw [<- i3];rfl))
  ·have hle:=qB8 _ _ _ _ hv
   rw [hv] at hrec i3
   refine hrec.eq rfl ?_
   refine And.intro (fun h=>absurd (show(l2:Int)<0 from h) (by omega)) (fun _=>?_)
   refine⟨_,w6z,?_⟩
   exact⟨(i+1,l2),⟨by simp only [];omega,by simp only [];omega,i3⟩,qAB [] [] [] rfl (sk) (sk) rfl,by show ar.length - (i+1)<ar.length - i;omega⟩
 have o9:¬ op=9:=o9
 by_cases hk:ar.length=0
 rotate_left
 ·refine And.intro (fun h=>absurd (show((ar.map Cd.cells).length:Int)=0 from h) (by rw [List.length_map];omega)) (fun _=>?_)
  exact qAG _ rfl rfl (qE4 (by rw [hno (by simp [qAb,qAc, *])];rfl))
 refine And.intro (fun _=>?_) (fun h=>absurd (show((ar.map Cd.cells).length:Int)=0 by rw [List.length_map];omega) h)
 refine And.intro (fun _=>?_) (fun h=>absurd rfl h)
 by_cases ht:qAQ op n rel val r st=true
 rotate_left
 ·rw [Bool.not_eq_true] at ht
  rw [ht] at hT
  refine hT.eq rfl ?_
  exact qAG _ rfl rfl (qE4 (by rw [hno (by simp [qAb,qAc, *])];rfl))
 rw [ht] at hT
 refine hT.eq rfl ?_
 have hy:=hyes (by simp [qAb,qAc, *])
 have har:ar=[]:=List.length_eq_zero_iff.1 hk
 rw [har,List.foldlM_nil] at hy
 refine⟨(m:Int),by rw [show((m+1:Nat):Int) - 1=(m:Int) by omega];exact w6z,?_⟩
 exact qAG _ rfl rfl (qE4 (by rw [<- hy];rfl))
theorem qLe:∀ d,d<=8->qYJ d
 | 0,_=>by
  rintro⟨op,n,rel,val,r,st,ar⟩ left p hb hl hp9
  refine qAC Tryz.func162 rfl rfl rfl ?_
  refine QAD (fun h1=>?_) (fun h1=>?_)
  ·exact qAG _ rfl rfl rfl
  ·refine And.intro (fun _=>?_) (fun h=>absurd (show(8:Int)<(p:Nat) by omega) h)
   exact qAG _ rfl rfl rfl
 | d+1,h=>qVa d (qLe d (by omega))
theorem qWh (op n rel val:Int) (r:Rf) (st:List Int) (ar:List Cd) (_hs:st.length<=9223372036854775807) (_ha:ar.length<=9223372036854775807):Pure cx 161 [(Cd.mk op n rel val r st ar).pv] (·=.ret [.bool (qEZ (.mk op n rel val r st ar))]):=by
 have epv:(Cd.mk op n rel val r st ar).pv=.agg [i64 op,i64 n,i64 rel,i64 val, .str r.name,i64 r.mode, .str r.plate,i64 r.n,ints st,cds ar]:=by
  show PV.agg [i64 op,i64 n,i64 rel,i64 val, .str r.name,i64 r.mode, .str r.plate,i64 r.n,ints st, .lsts 10 (qBX ar)]=_
  rw [qBw]
 rw [epv]
 refine qAC Tryz.func161 rfl rfl rfl ?_
 refine QAD (fun h0=>?_) (fun h0=>?_)
 rotate_left
 ·have h0:¬ op=0:=h0
  exact qAG _ rfl rfl (qAO (by simp [qEZ,qA1, *]))
 have h0:op=0:=h0
 refine QAD (fun h1=>?_) (fun h1=>?_)
 rotate_left
 ·have h1:¬ n=0:=h1
  exact qAG _ rfl rfl (qAO (by simp [qEZ,qA1, *]))
 have h1:n=0:=h1
 refine QAD (fun h2=>?_) (fun h2=>?_)
 rotate_left
 ·have h2:¬ rel=0:=h2
  exact qAG _ rfl rfl (qAO (by simp [qEZ,qA1, *]))
 have h2:rel=0:=h2
 refine QAD (fun h3=>?_) (fun h3=>?_)
 rotate_left
 ·have h3:¬ val=0:=h3
  exact qAG _ rfl rfl (qAO (by simp [qEZ,qA1, *]))
 have h3:val=0:=h3
 refine⟨⟨by kernel_rfl,by kernel_rfl⟩,fun h4=>?_,fun h4=>?_⟩
 rotate_left
 ·have h4:¬ r=rf0:=fun e=>h4 (by rw [e];rfl)
  exact qAG _ rfl rfl (qAO (by simp [qEZ,qA1, *]))
 have h4:r=rf0:=qSe (by first | exact h4 | (injection h4))
 refine QAD (fun h5=>?_) (fun h5=>?_)
 rotate_left
 ·have h5:¬ ((st.map i64).length:Int)=0:=h5
  have h5:¬ st=[]:=fun e=>h5 (by rw [e];rfl)
  exact qAG _ rfl rfl (qAO (by simp [qEZ,qA1, *]))
 have h5:((st.map i64).length:Int)=0:=h5
 have h5:st=[]:=by rw [List.length_map] at h5;exact List.length_eq_zero_iff.1 (by omega)
 refine QAD (fun h6=>?_) (fun h6=>?_)
 ·have h6:((ar.map Cd.cells).length:Int)=0:=h6
  have h6:ar=[]:=by rw [List.length_map] at h6;exact List.length_eq_zero_iff.1 (by omega)
  exact qAG _ rfl rfl (qAO (by simp [qEZ,qA1, *]))
 ·have h6:¬ ((ar.map Cd.cells).length:Int)=0:=h6
  have h6:¬ ar=[]:=fun e=>h6 (by rw [e];rfl)
  exact qAG _ rfl rfl (qAO (by simp [qEZ,qA1, *]))
set_option maxHeartbeats 4000000
theorem qSo (l:List Cs) (hb:BigL l):Pure cx 119 [css l] (·=.ret [.bool (qBM l)]):=by
 refine qAC Tryz.func119 rfl rfl rfl ?_
 have hll:=hb.len
 have hm:(l.map Cs.cells).length=l.length:=List.length_map ..
 refine QAD (fun h1=>?_) (fun h1=>?_)
 ·have h1:((l.map Cs.cells).length:Int)<1:=h1
  rw [hm] at h1
  exact qAG _ rfl rfl (qAO (by rw [qBM,decide_eq_false (by omega)];rfl))
 have h1:¬ ((l.map Cs.cells).length:Int)<1:=h1
 rw [hm] at h1
 refine QAD (fun h2=>?_) (fun h2=>?_)
 ·have h2:(12:Int)<((l.map Cs.cells).length:Nat):=h2
  rw [hm] at h2
  exact qAG _ rfl rfl (qAO (by rw [qBM,decide_eq_false (show ¬ l.length<=12 by omega),Bool.and_false];rfl))
 have h2:¬ (12:Int)<((l.map Cs.cells).length:Nat):=h2
 rw [hm] at h2
 have hB0:qBM l=qBj (l.drop 0):=by rw [qBM,decide_eq_true (show 1<=l.length by omega),decide_eq_true (show l.length<=12 by omega)];rfl
 refine⟨Nat,fun i=>[(0, .p (css l)),(3, .p (i64 i))],fun _=>⟨0,[]⟩,fun i=>i<=l.length/\qBM l=qBj (l.drop i),fun i=>l.length - i,?_,?_⟩
 ·exact⟨0,⟨Nat.zero_le _,hB0⟩,qCh rfl ⟨rfl,rfl,trivial⟩ trivial rfl⟩
 rintro i ⟨i0,i2⟩
 clear hB0
 refine QAD (fun j1=>?_) (fun j1=>?_)
 rotate_left
 ·have j1:¬ (i:Int)<((l.map Cs.cells).length:Nat):=j1
  rw [hm] at j1
  rw [List.drop_eq_nil_of_le (by omega),qBj] at i2
  exact qAG _ rfl rfl (qAO i2.symm)
 have j1:(i:Int)<((l.map Cs.cells).length:Nat):=j1
 rw [hm] at j1
 have i1:i<l.length:=by omega
 have hmem:=qAL cs0 i1
 have hbc:=hb.cond _ hmem
 have hbn:=hb.nums _ hmem
 have hcell:=qMG i1
 have hstep:=fun h=>qFr (l:=l) (i:=i) h
 have hlast:=fun h=>qFs (l:=l) (i:=i) h
 rcases hx:l.getD i cs0 with ⟨⟨op,n,rel,val,r,st,ar⟩,nums⟩
 rw [hx] at hbc hbn hcell hstep hlast
 simp only [] at hbc hbn hstep hlast
 have hno:qCX nums=false->qBM l=false:=fun h=>by
  rw [i2]
  rcases Nat.lt_or_ge (i+1) l.length with h3 | h3
  ·rw [hstep h3,h];rfl
  ·rw [hlast (by omega),h];rfl
 have hnm:(nums.map i64).length=nums.length:=List.length_map ..
 refine⟨_,⟨by omega,(⟨.mk op n rel val r st ar,nums⟩:Cs).cells,hcell,rfl⟩,?_⟩
 refine QAD (fun j2=>?_) (fun j2=>?_)
 ·have j2:((nums.map i64).length:Int)<1:=j2
  rw [hnm] at j2
  exact qAG _ rfl rfl (qAO (hno (by rw [qCX,decide_eq_false (by omega)];rfl)).symm)
 have j2:¬ ((nums.map i64).length:Int)<1:=j2
 rw [hnm] at j2
 refine⟨_,⟨by omega,(⟨.mk op n rel val r st ar,nums⟩:Cs).cells,hcell,rfl⟩,?_⟩
 refine QAD (fun j3=>?_) (fun j3=>?_)
 ·have j3:(8:Int)<((nums.map i64).length:Nat):=j3
  rw [hnm] at j3
  exact qAG _ rfl rfl (qAO (hno (by rw [qCX,decide_eq_false (show ¬ nums.length<=8 by omega),Bool.and_false];rfl)).symm)
 have j3:¬ (8:Int)<((nums.map i64).length:Nat):=j3
 rw [hnm] at j3
 refine⟨Nat,fun k=>[(0, .p (css l)),(3, .p (i64 i)),(4, .p (i64 k))],fun _=>⟨0,[]⟩,fun k=>k<=nums.length/\∀ x∈nums.take k,qGW x=true,fun k=>nums.length - k,?_,?_⟩
 ·exact⟨0,⟨Nat.zero_le _,by simp⟩,qCh rfl ⟨rfl,rfl,rfl,trivial⟩ trivial rfl⟩
 rintro k ⟨k1,k2⟩
 refine⟨_,⟨by omega,(⟨.mk op n rel val r st ar,nums⟩:Cs).cells,hcell,rfl⟩,?_⟩
 refine QAD (fun m1=>?_) (fun m1=>?_)
 ·have m1:(k:Int)<((nums.map i64).length:Nat):=m1
  rw [hnm] at m1
  have hk:k<nums.length:=by omega
  have bad:qGW (nums.getD k 0)=false->qBM l=false:=fun h=>hno (by rw [qCX,qLr 0 hk h,Bool.and_false])
  refine⟨_,⟨by omega,(⟨.mk op n rel val r st ar,nums⟩:Cs).cells,hcell,rfl⟩,?_⟩
  refine⟨_,⟨by omega,i64 (nums.getD k 0),qGM hk,rfl⟩,?_⟩
  refine QAD (fun m2=>?_) (fun m2=>?_)
  ·have m2:nums.getD k 0 < -9999:=m2
   exact qAG _ rfl rfl (qAO (bad (by rw [qGW,decide_eq_false (by omega)];rfl)).symm)
  have m2:¬ nums.getD k 0 < -9999:=m2
  refine⟨_,⟨by omega,(⟨.mk op n rel val r st ar,nums⟩:Cs).cells,hcell,rfl⟩,?_⟩
  refine⟨_,⟨by omega,i64 (nums.getD k 0),qGM hk,rfl⟩,?_⟩
  refine QAD (fun m3=>?_) (fun m3=>?_)
  ·have m3:(9999:Int)<nums.getD k 0:=m3
   exact qAG _ rfl rfl (qAO (bad (by rw [qGW,decide_eq_false (show ¬ nums.getD k 0<=9999 by omega),Bool.and_false])).symm)
  have m3:¬ (9999:Int)<nums.getD k 0:=m3
  refine⟨_,w6z,?_⟩
  refine⟨k+1,⟨by omega,fun x hx=>?_⟩,qCh rfl ⟨rfl,rfl,rfl,trivial⟩ trivial rfl,by show nums.length - (k+1)<nums.length - k;omega⟩
  rw [qAY 0 hk] at hx
  rcases List.mem_append.1 hx with hx | hx
  ·exact k2 x hx
  ·rw [List.mem_singleton.1 hx,qGW,decide_eq_true (by omega),decide_eq_true (by omega)];rfl
 have m1:¬ (k:Int)<((nums.map i64).length:Nat):=m1
 rw [hnm] at m1
 have hnums:qCX nums=true:=by
  have:nums.all qGW=true:=by
   rw [List.all_eq_true]
   rw [qBg (by omega)] at k2
   exact k2
  rw [qCX,this,decide_eq_true (by omega),decide_eq_true (by omega)];rfl
 refine⟨((l.length - 1:Nat):Int),by show _=IntKind.i64.wrap (((l.map Cs.cells).length:Int) - 1);rw [hm,show(l.length:Int) - 1=((l.length - 1:Nat):Int) by omega];exact w6z,?_⟩
 refine QAD (fun m4=>?_) (fun m4=>?_)
 ·have m4:(i:Int)=((l.length - 1:Nat):Int):=m4
  have hT:=hlast (by omega)
  rw [<- i2,hnums,Bool.true_and] at hT
  simp only [qC1] at hbc
  have hP:=qWh op n rel val r st ar hbc.2.1 hbc.2.2.1
  refine⟨_,⟨by omega,(⟨.mk op n rel val r st ar,nums⟩:Cs).cells,hcell,rfl⟩,?_⟩
  rw [<- hT] at hP
  by_cases p2:qBM l=true
  rotate_left
  ·rw [Bool.not_eq_true] at p2
   rw [p2] at hP
   refine hP.eq rfl ?_
   exact qAG _ rfl rfl (qAO p2.symm)
  rw [p2] at hP
  refine hP.eq rfl ?_
  refine⟨_,w6z,?_⟩
  exact⟨i+1,⟨by omega,by rw [p2,List.drop_eq_nil_of_le (by omega)];rfl⟩,qCh rfl ⟨rfl,rfl,trivial⟩ trivial rfl,by show l.length - (i+1)<l.length - i;omega⟩
 have m4:¬ (i:Int)=((l.length - 1:Nat):Int):=m4
 have hT:=hstep (by omega)
 rw [<- i2,hnums,Bool.true_and] at hT
 have hC:=qLe 8 (Nat.le_refl _) (.mk op n rel val r st ar) 30 1 hbc (by omega) (by omega)
 refine⟨_,⟨by omega,(⟨.mk op n rel val r st ar,nums⟩:Cs).cells,hcell,rfl⟩,?_⟩
 rcases hv:qAs 8 (.mk op n rel val r st ar) 30 with _ | k2
 ·rw [hv] at hC hT
  refine hC.eq rfl ?_
  refine And.intro (fun _=>?_) (fun h=>absurd (show(-1:Int)<0 by decide) h)
  exact qAG _ rfl rfl (qAO (by rw [hT];rfl))
 ·rw [hv] at hC hT
  refine hC.eq rfl ?_
  refine And.intro (fun h=>absurd (show(k2:Int)<0 from h) (by omega)) (fun _=>?_)
  refine⟨_,w6z,?_⟩
  exact⟨i+1,⟨by omega,by rw [hT];rfl⟩,qCh rfl ⟨rfl,rfl,trivial⟩ trivial rfl,by show l.length - (i+1)<l.length - i;omega⟩
theorem qUf (l:List Rf) (hl:l.length<=9223372036854775807) (hb:∀ r∈l,BigR r):Pure cx 117 [qB5 l] (·=.ret [.bool (decide (l.length<=8) && l.all qBl)]):=by
 refine qAC Tryz.func117 rfl rfl rfl ?_
 have hm:(l.map Rf.cells).length=l.length:=List.length_map ..
 refine⟨Nat,fun k=>[(0, .p (qB5 l)),(3, .p (i64 k))],fun _=>⟨0,[]⟩,fun k=>k<=l.length/\∀ x∈l.take k,qBl x=true,fun k=>l.length - k,?_,?_⟩
 ·exact⟨0,⟨Nat.zero_le _,by simp⟩,qCh rfl ⟨rfl,rfl,trivial⟩ trivial rfl⟩
 rintro k ⟨k1,k2⟩
 refine QAD (fun m1=>?_) (fun m1=>?_)
 ·have m1:(k:Int)<((l.map Rf.cells).length:Nat):=m1
  rw [hm] at m1
  have hk:k<l.length:=by omega
  refine⟨_,⟨by omega,(l.getD k rf0).cells,qK8 hk,rfl⟩,?_⟩
  have hR:=qTr (l.getD k rf0) (hb _ (qAL rf0 hk))
  by_cases r1:qBl (l.getD k rf0)=true
  rotate_left
  ·rw [Bool.not_eq_true] at r1
   rw [r1] at hR
   refine hR.eq rfl ?_
   exact qAG _ rfl rfl (qAO (by rw [qLr rf0 hk r1,Bool.and_false]))
  rw [r1] at hR
  refine hR.eq rfl ?_
  refine⟨_,w6z,?_⟩
  refine⟨k+1,⟨by omega,fun x hx=>?_⟩,qCh rfl ⟨rfl,rfl,trivial⟩ trivial rfl,by show l.length - (k+1)<l.length - k;omega⟩
  rw [qAY rf0 hk] at hx
  rcases List.mem_append.1 hx with hx | hx
  ·exact k2 x hx
  ·rw [List.mem_singleton.1 hx];exact r1
 have m1:¬ (k:Int)<((l.map Rf.cells).length:Nat):=m1
 rw [hm] at m1
 rw [qBg (by omega)] at k2
 have ha:l.all qBl=true:=List.all_eq_true.2 k2
 refine QAD (fun m2=>?_) (fun m2=>?_)
 ·have m2:((l.map Rf.cells).length:Int)<=8:=m2
  rw [hm] at m2
  exact qAG _ rfl rfl (qAO (by rw [ha,decide_eq_true (by omega)];rfl))
 ·have m2:¬ ((l.map Rf.cells).length:Int)<=8:=m2
  rw [hm] at m2
  exact qAG _ rfl rfl (qAO (by rw [decide_eq_false (by omega)];rfl))
theorem qUp (d:De) (hb:BigD d):Pure cx 74 [d.pv] (·=.ret [.bool (qBa d)]):=by
 refine qAC Tryz.func74 rfl rfl rfl ?_
 have hN:=qEj d.n
 have hF:=qUf d.refs hb.len hb.refs
 have hI:=qH1 d.name hb.name
 have hJ:=qH1 d.plate hb.plate
 have hC:=qSo d.cases hb.cases
 have hrl:=hb.len
 have hcl:=hb.cases.len
 clear hb
 by_cases n1:qBt d.n=true
 rotate_left
 ·rw [Bool.not_eq_true] at n1
  rw [n1] at hN
  refine hN.eq rfl ?_
  exact qAG _ rfl rfl (qAO (by rw [qBa,n1];rfl))
 rw [n1] at hN
 refine hN.eq rfl ?_
 by_cases n2:(decide (d.refs.length<=8) && d.refs.all qBl)=true
 rotate_left
 ·rw [Bool.not_eq_true] at n2
  rw [n2] at hF
  refine hF.eq rfl ?_
  exact qAG _ rfl rfl (qAO (by rw [qBa,n1,Bool.true_and,n2];rfl))
 rw [n2] at hF
 refine hF.eq rfl ?_
 have hfin:qBa d=qAt d:=by rw [qBa,n1,Bool.true_and,n2];rfl
 clear hF hN n1 n2
 refine And.intro (fun q1=>?_) (fun q1=>?_)
 ·have q1:d.plate=[]:=q1
  by_cases p1:qAj d.name=true
  rotate_left
  ·have p1':=p1
   rw [Bool.not_eq_true] at p1
   rw [p1] at hI
   refine hI.eq rfl ?_
   refine QAD (fun o1=>?_) (fun o1=>?_)
   ·have o1:d.kind=1:=o1
    refine QAD (fun p2=>?_) (fun p2=>?_)
    rotate_left
    ·have p2:¬ d.name=[]:=p2
     exact qAG _ rfl rfl (qAO (by simp [qAt, *]))
    have p2:d.name=[]:=p2
    refine QAD (fun p3=>?_) (fun p3=>?_)
    rotate_left
    ·have p3:¬ ((d.refs.map Rf.cells).length:Int)=0:=p3
     have p3:¬ d.refs=[]:=fun e=>p3 (by rw [e];rfl)
     exact qAG _ rfl rfl (qAO (by simp [qAt, *]))
    have p3:((d.refs.map Rf.cells).length:Int)=0:=p3
    have p3:d.refs=[]:=by rw [List.length_map] at p3;exact List.length_eq_zero_iff.1 (by omega)
    refine QAD (fun p4=>?_) (fun p4=>?_)
    rotate_left
    ·have p4:¬ ((d.cases.map Cs.cells).length:Int)=0:=p4
     have p4:¬ d.cases=[]:=fun e=>p4 (by rw [e];rfl)
     exact qAG _ rfl rfl (qAO (by simp [qAt, *]))
    have p4:((d.cases.map Cs.cells).length:Int)=0:=p4
    have p4:d.cases=[]:=by rw [List.length_map] at p4;exact List.length_eq_zero_iff.1 (by omega)
    exact qAG _ rfl rfl (qAO (by simp [qAt, *]))
   have o1:¬ d.kind=1:=o1
   refine QAD (fun o2=>?_) (fun o2=>?_)
   ·have o2:d.kind=2:=o2
    exact qAG _ rfl rfl (qAO (by simp [qAt, *]))
   have o2:¬ d.kind=2:=o2
   refine QAD (fun o3=>?_) (fun o3=>?_)
   ·have o3:d.kind=3:=o3
    exact qAG _ rfl rfl (qAO (by simp [qAt, *]))
   have o3:¬ d.kind=3:=o3
   refine QAD (fun o4=>?_) (fun o4=>?_)
   ·have o4:d.kind=4:=o4
    exact qAG _ rfl rfl (qAO (by simp [qAt, *]))
   have o4:¬ d.kind=4:=o4
   refine QAD (fun o5=>?_) (fun o5=>?_)
   ·have o5:d.kind=5:=o5
    refine QAD (fun p2=>?_) (fun p2=>?_)
    rotate_left
    ·have p2:¬ d.name=[]:=p2
     exact qAG _ rfl rfl (qAO (by simp [qAt, *]))
    have p2:d.name=[]:=p2
    refine QAD (fun p3=>?_) (fun p3=>?_)
    rotate_left
    ·have p3:¬ d.n=0:=p3
     exact qAG _ rfl rfl (qAO (by simp [qAt, *]))
    have p3:d.n=0:=p3
    refine hC.eq rfl ?_
    exact qAG _ rfl rfl (qAO (by simp [qAt, *]))
   have o5:¬ d.kind=5:=o5
   exact qAG _ rfl rfl (qAO (by simp [qAt, *]))
  rw [p1] at hI
  refine hI.eq rfl ?_
  refine QAD (fun o1=>?_) (fun o1=>?_)
  ·have o1:d.kind=1:=o1
   refine QAD (fun p2=>?_) (fun p2=>?_)
   rotate_left
   ·have p2:¬ d.name=[]:=p2
    exact qAG _ rfl rfl (qAO (by simp [qAt, *]))
   have p2:d.name=[]:=p2
   refine QAD (fun p3=>?_) (fun p3=>?_)
   rotate_left
   ·have p3:¬ ((d.refs.map Rf.cells).length:Int)=0:=p3
    have p3:¬ d.refs=[]:=fun e=>p3 (by rw [e];rfl)
    exact qAG _ rfl rfl (qAO (by simp [qAt, *]))
   have p3:((d.refs.map Rf.cells).length:Int)=0:=p3
   have p3:d.refs=[]:=by rw [List.length_map] at p3;exact List.length_eq_zero_iff.1 (by omega)
   refine QAD (fun p4=>?_) (fun p4=>?_)
   rotate_left
   ·have p4:¬ ((d.cases.map Cs.cells).length:Int)=0:=p4
    have p4:¬ d.cases=[]:=fun e=>p4 (by rw [e];rfl)
    exact qAG _ rfl rfl (qAO (by simp [qAt, *]))
   have p4:((d.cases.map Cs.cells).length:Int)=0:=p4
   have p4:d.cases=[]:=by rw [List.length_map] at p4;exact List.length_eq_zero_iff.1 (by omega)
   exact qAG _ rfl rfl (qAO (by simp [qAt, *]))
  have o1:¬ d.kind=1:=o1
  refine QAD (fun o2=>?_) (fun o2=>?_)
  ·have o2:d.kind=2:=o2
   refine QAD (fun p3=>?_) (fun p3=>?_)
   rotate_left
   ·have p3:¬ ((d.refs.map Rf.cells).length:Int)=0:=p3
    have p3:¬ d.refs=[]:=fun e=>p3 (by rw [e];rfl)
    exact qAG _ rfl rfl (qAO (by simp [qAt, *]))
   have p3:((d.refs.map Rf.cells).length:Int)=0:=p3
   have p3:d.refs=[]:=by rw [List.length_map] at p3;exact List.length_eq_zero_iff.1 (by omega)
   refine QAD (fun p4=>?_) (fun p4=>?_)
   rotate_left
   ·have p4:¬ ((d.cases.map Cs.cells).length:Int)=0:=p4
    have p4:¬ d.cases=[]:=fun e=>p4 (by rw [e];rfl)
    exact qAG _ rfl rfl (qAO (by simp [qAt, *]))
   have p4:((d.cases.map Cs.cells).length:Int)=0:=p4
   have p4:d.cases=[]:=by rw [List.length_map] at p4;exact List.length_eq_zero_iff.1 (by omega)
   exact qAG _ rfl rfl (qAO (by simp [qAt, *]))
  have o2:¬ d.kind=2:=o2
  refine QAD (fun o3=>?_) (fun o3=>?_)
  ·have o3:d.kind=3:=o3
   refine hC.eq rfl ?_
   exact qAG _ rfl rfl (qAO (by simp [qAt, *]))
  have o3:¬ d.kind=3:=o3
  refine QAD (fun o4=>?_) (fun o4=>?_)
  ·have o4:d.kind=4:=o4
   refine QAD (fun p4=>?_) (fun p4=>?_)
   rotate_left
   ·have p4:¬ ((d.cases.map Cs.cells).length:Int)=0:=p4
    have p4:¬ d.cases=[]:=fun e=>p4 (by rw [e];rfl)
    exact qAG _ rfl rfl (qAO (by simp [qAt, *]))
   have p4:((d.cases.map Cs.cells).length:Int)=0:=p4
   have p4:d.cases=[]:=by rw [List.length_map] at p4;exact List.length_eq_zero_iff.1 (by omega)
   exact qAG _ rfl rfl (qAO (by simp [qAt, *]))
  have o4:¬ d.kind=4:=o4
  refine QAD (fun o5=>?_) (fun o5=>?_)
  ·have o5:d.kind=5:=o5
   refine QAD (fun p2=>?_) (fun p2=>?_)
   rotate_left
   ·have p2:¬ d.name=[]:=p2
    exact qAG _ rfl rfl (qAO (by simp [qAt, *]))
   have p2:d.name=[]:=p2
   refine QAD (fun p3=>?_) (fun p3=>?_)
   rotate_left
   ·have p3:¬ d.n=0:=p3
    exact qAG _ rfl rfl (qAO (by simp [qAt, *]))
   have p3:d.n=0:=p3
   refine hC.eq rfl ?_
   exact qAG _ rfl rfl (qAO (by simp [qAt, *]))
  have o5:¬ d.kind=5:=o5
  exact qAG _ rfl rfl (qAO (by simp [qAt, *]))
 have q1:¬ d.plate=[]:=q1
 refine And.intro (fun q2=>?_) (fun q2=>?_)
 rotate_left
 ·have q2:¬ d.kind=3:=q2
  exact qAG _ rfl rfl (qAO (by simp [qAt, *]))
 have q2:d.kind=3:=q2
 by_cases q3:qAj d.plate=true
 rotate_left
 ·rw [Bool.not_eq_true] at q3
  rw [q3] at hJ
  refine hJ.eq rfl ?_
  exact qAG _ rfl rfl (qAO (by simp [qAt, *]))
 rw [q3] at hJ
 refine hJ.eq rfl ?_
 by_cases p1:qAj d.name=true
 rotate_left
 ·rw [Bool.not_eq_true] at p1
  rw [p1] at hI
  refine hI.eq rfl ?_
  refine And.intro (fun h=>absurd (show d.kind=1 from h) (by omega)) (fun _=>?_)
  refine And.intro (fun h=>absurd (show d.kind=2 from h) (by omega)) (fun _=>?_)
  refine And.intro (fun _=>?_) (fun h=>absurd q2 h)
  exact qAG _ rfl rfl (qAO (by simp [qAt, *]))
 rw [p1] at hI
 refine hI.eq rfl ?_
 refine And.intro (fun h=>absurd (show d.kind=1 from h) (by omega)) (fun _=>?_)
 refine And.intro (fun h=>absurd (show d.kind=2 from h) (by omega)) (fun _=>?_)
 refine And.intro (fun _=>?_) (fun h=>absurd q2 h)
 refine hC.eq rfl ?_
 exact qAG _ rfl rfl (qAO (by simp [qAt, *]))
theorem qXk (ds:List De) (hb:BigP ds):Pure cx 46 [qCn ds] (·=.ret [.bool (qBH ds)]):=by
 refine qAC Tryz.func46 rfl rfl rfl ?_
 have hl:=hb.len
 have hm:(ds.map De.cells).length=ds.length:=List.length_map ..
 have hfin:∀ k,k<=ds.length->(30<k∨k=ds.length)->(∀ x∈ds.take k,qBa x=true)->qBH ds=decide (ds.length<=30):=fun k h1 h2 h3=>by
  rcases h2 with h2 | h2
  ·rw [qBH,decide_eq_false (show ¬ ds.length<=30 by omega)];rfl
  ·rw [qBg (by omega)] at h3
   rw [qBH,List.all_eq_true.2 h3,Bool.and_true]
 refine⟨Nat,fun k=>[(1, .ptr 0 0 0),(3, .p (i64 k))],fun _=>⟨1,[(0,srO (.p (des ds)))]⟩,fun k=>k<=ds.length/\k<=31/\∀ x∈ds.take k,qBa x=true,fun k=>ds.length - k,?_,?_⟩
 ·exact⟨0,⟨Nat.zero_le _,by omega,by simp⟩,qAB [] [] [] rfl (sk) (sk) rfl⟩
 rintro k ⟨k1,k3,k2⟩
 refine QAD (fun m1=>?_) (fun m1=>?_)
 ·have m1:(k:Int)<((ds.map De.cells).length:Nat):=m1
  rw [hm] at m1
  have hk:k<ds.length:=by omega
  refine QAD (fun m2=>?_) (fun m2=>?_)
  ·have m2:(k:Int)<=30:=m2
   refine⟨_,⟨by omega,(ds.getD k de0).cells,qJj hk,rfl⟩,?_⟩
   have hR:=qUp (ds.getD k de0) (hb.decl _ (qAL de0 hk))
   by_cases r1:qBa (ds.getD k de0)=true
   rotate_left
   ·rw [Bool.not_eq_true] at r1
    rw [r1] at hR
    refine hR.eq rfl ?_
    exact qAG _ rfl rfl (qAO (by rw [qBH,qLr de0 hk r1,Bool.and_false]))
   rw [r1] at hR
   refine hR.eq rfl ?_
   refine⟨_,w6z,?_⟩
   refine⟨k+1,⟨by omega,by omega,fun x hx=>?_⟩,qAB [] [] [] rfl (sk) (sk) rfl,by show ds.length - (k+1)<ds.length - k;omega⟩
   rw [qAY de0 hk] at hx
   rcases List.mem_append.1 hx with hx | hx
   ·exact k2 x hx
   ·rw [List.mem_singleton.1 hx];exact r1
  ·have m2:¬ (k:Int)<=30:=m2
   refine And.intro (fun h=>?_) (fun h=>?_)
   ·have h:((ds.map De.cells).length:Int)<=30:=h
    rw [hm] at h
    omega
   ·exact qAG _ rfl rfl (qAO (by rw [hfin k k1 (.inl (by omega)) k2,decide_eq_false (by omega)]))
 ·have m1:¬ (k:Int)<((ds.map De.cells).length:Nat):=m1
  rw [hm] at m1
  refine And.intro (fun h=>?_) (fun h=>?_)
  ·have h:((ds.map De.cells).length:Int)<=30:=h
   rw [hm] at h
   exact qAG _ rfl rfl (qAO (by rw [hfin k k1 (.inr (by omega)) k2,decide_eq_true (by omega)]))
  ·have h:¬ ((ds.map De.cells).length:Int)<=30:=h
   rw [hm] at h
   exact qAG _ rfl rfl (qAO (by rw [hfin k k1 (.inr (by omega)) k2,decide_eq_false (by omega)]))
def Out {α:Type} (b:Bool) (p:Nat) (r:Rd α) (a:α) (q:Nat) (b':Bool):Prop:=if b=true then b'=true/\q=p else r=if b'=true then .inl q else .inr (a,q)
theorem Out.then {α β:Type} {b b1 b2:Bool} {p q q2:Nat} {r:Rd α} {k:α->Nat->Rd β} {a:α} {c:β} (h:Out b p r a q b1) (h2:Out b1 q (k a q) c q2 b2):Out b p (r.then k) c q2 b2:=by
 cases b
 ·have h:r=if b1=true then .inl q else .inr (a,q):=h
  show r.then k=_
  cases b1
  ·rw [if_neg (by decide)] at h
   subst h
   exact h2
  ·rw [if_pos rfl] at h
   subst h
   obtain⟨rfl,rfl⟩:b2=true/\q2=q:=h2
   rfl
 ·obtain⟨rfl,rfl⟩:b1=true/\q=p:=h
  exact h2
theorem Out.bad {α:Type} {p:Nat} {r:Rd α} {a:α}:Out true p r a p true:=⟨rfl,rfl⟩
theorem Out.same {α:Type} {b:Bool} {p:Nat} {a:α}:Out b p (.inr (a,p)) a p b:=by
 cases b
 ·rfl
 ·exact⟨rfl,rfl⟩
theorem Out.ret {α:Type} {b:Bool} {p:Nat} {a a':α} (h:a=a'):Out b p (.inr (a,p)) a' p b:=by
 subst h;exact Out.same
abbrev Tk (ws:List Wd) (b:Bool) (q:Nat) (s:List UInt8):Prop:=b=false/\txt ws q=s
theorem Out.yes {α:Type} {c:Prop} [Decidable c] {b:Bool} {p q:Nat} {x y:Rd α} {a:α} {b':Bool} (h:b=false/\c) (hx:Out false p x a q b'):Out b p (if c then x else y) a q b':=by
 obtain⟨rfl,h⟩:=h
 rw [if_pos h];exact hx
theorem Out.no {α:Type} {c:Prop} [Decidable c] {b:Bool} {p q:Nat} {x y:Rd α} {a:α} {b':Bool} (h:¬ (b=false/\c)) (hy:Out b p y a q b'):Out b p (if c then x else y) a q b':=by
 cases b
 ·rw [if_neg (fun e=>h ⟨rfl,e⟩)];exact hy
 ·exact hy
theorem qT9 {ws:List Wd} (hg:GoodW ws) {q:Nat} {s:List UInt8} (hs:s∈keysL++marksL) (h:txt ws q=s) (hn:s ≠ []):knd ws q=2∨knd ws q=4:=by
 have hr:=hg.at (qAh (ws:=ws) (q:=q) (by rw [h];exact hn))
 rw [h] at hr
 have key:∀ s∈keysL++marksL,qAj s=false/\qHL s=false:=by decide
 obtain⟨k1,k2⟩:=key s hs
 unfold qAo at hr
 split at hr
 ·rw [k1] at hr;cases hr
 ·split at hr
  ·rename_i h2;exact .inl h2
  ·split at hr
   ·rw [k2] at hr;cases hr
   ·split at hr
    ·rename_i h4;exact .inr h4
    ·cases hr
def rrO (ws:List Wd) (q:Nat) (b:Bool):AObj:=⟨129,false, .bx [.p (.lsts 4 (ws.map Wd.cells)), .p (i64 q), .p (.bool b)]⟩
abbrev rrH (ws:List Wd) (q:Nat) (b:Bool):Hp:=⟨1,[(0,rrO ws q b)]⟩
def isQ (ws:List Wd) (q:Nat) (b:Bool) (s:List UInt8) (e:AE) (H':Hp):Prop:=(Tk ws b q s->e=.returned (vB true)/\H'=rrH ws q b)/\(¬ Tk ws b q s->e=.returned (vB false)/\H'=rrH ws q b)
theorem qVE (ws:List Wd) (q:Nat) (b:Bool) (s:List UInt8) (hg:GoodW ws) (hq:q<=ws.length) (hs:s∈keysL++marksL) (hn:s ≠ []):HoldsG cx 136 [.ptr 0 0 0, .p (.str s)] (rrH ws q b) (isQ ws q b s):=by
 refine qAA Tryz.func136 rfl rfl rfl ?_
 have hl:=hg.len
 have hl':(ws.map Wd.cells).length=ws.length:=List.length_map ..
 cases b
 rotate_left
 ·refine VDraw.seq rfl ?_
  exact⟨[],[],[], .returned (vB false),rrH ws q true,rfl,sk,sk,fun h=>absurd h.1 (by decide),fun _=>⟨rfl,rfl⟩⟩
 refine VDraw.seq rfl ?_
 refine QAD (fun h1=>?_) (fun h1=>?_)
 rotate_left
 ·have h1:¬ (q:Int)<((ws.map Wd.cells).length:Nat):=h1
  rw [hl'] at h1
  exact⟨[],[],[], .returned (vB false),rrH ws q false,rfl,sk,sk,fun h=>absurd (qAh (ws:=ws) (q:=q) (by rw [h.2];exact hn)) (by omega),fun _=>⟨rfl,rfl⟩⟩
 have h1:(q:Int)<((ws.map Wd.cells).length:Nat):=h1
 rw [hl'] at h1
 have hlt:q<ws.length:=by omega
 refine⟨_,⟨by omega,(wat ws q).cells,qCl hlt,rfl⟩,?_⟩
 refine QAD (fun h2=>?_) (fun h2=>?_)
 rotate_left
 ·have h2:¬ txt ws q=s:=h2
  exact⟨[],[],[], .returned (vB false),rrH ws q false,rfl,sk,sk,fun h=>absurd h.2 h2,fun _=>⟨rfl,rfl⟩⟩
 have h2:txt ws q=s:=h2
 have hk:=qT9 hg hs h2 hn
 refine⟨_,⟨by omega,(wat ws q).cells,qCl hlt,rfl⟩,?_⟩
 refine QAD (fun h3=>?_) (fun h3=>?_)
 ·exact⟨[],[],[], .returned (vB true),rrH ws q false,rfl,sk,sk,fun _=>⟨rfl,rfl⟩,fun h=>absurd ⟨rfl,h2⟩ h⟩
 have h3:¬ knd ws q=2:=h3
 refine⟨_,⟨by omega,(wat ws q).cells,qCl hlt,rfl⟩,?_⟩
 refine QAD (fun h4=>?_) (fun h4=>?_)
 ·exact⟨[],[],[], .returned (vB true),rrH ws q false,rfl,sk,sk,fun _=>⟨rfl,rfl⟩,fun h=>absurd ⟨rfl,h2⟩ h⟩
 ·have h4:¬ knd ws q=4:=h4
  omega
def tkQ (ws:List Wd) (q:Nat) (b:Bool) (s:List UInt8) (e:AE) (H':Hp):Prop:=(Tk ws b q s->e=.returned (vB true)/\H'=rrH ws (q+1) false)/\(¬ Tk ws b q s->e=.returned (vB false)/\H'=rrH ws q b)
theorem qA0 (ws:List Wd) (q:Nat) (b:Bool) (s:List UInt8) (hg:GoodW ws) (hq:q<=ws.length) (hs:s∈keysL++marksL) (hn:s ≠ []):HoldsG cx 96 [.ptr 0 0 0, .p (.str s)] (rrH ws q b) (tkQ ws q b s):=by
 refine qAA Tryz.func96 rfl rfl rfl ?_
 have hl:=hg.len
 refine(qVE ws q b s hg hq hs hn).holds.mono fun e H' h=>?_
 by_cases c:Tk ws b q s
 ·obtain⟨rfl,rfl⟩:=h.1 c
  obtain⟨rfl,c2⟩:=c
  refine⟨_,w6z,?_⟩
  exact⟨[],[],[], .returned (vB true),rrH ws (q+1) false,rfl,sk,sk,fun _=>⟨rfl,rfl⟩,fun h=>absurd ⟨rfl,c2⟩ h⟩
 ·obtain⟨rfl,rfl⟩:=h.2 c
  exact⟨[],[],[], .returned (vB false),rrH ws q b,rfl,sk,sk,fun h=>absurd h c,fun _=>⟨rfl,rfl⟩⟩
def RQ {α:Type} (ws:List Wd) (b:Bool) (q:Nat) (r:Rd α) (val:α->AV) (e:AE) (H':Hp):Prop:=∃ a q' b',q'<=ws.length/\Out b q r a q' b'/\e=.returned (val a)/\H'=rrH ws q' b'
theorem qA8 (ws:List Wd) (q:Nat) (b:Bool) (s:List UInt8) (hg:GoodW ws) (hq:q<=ws.length) (hs:s∈keysL++marksL) (hn:s ≠ []):HoldsG cx 99 [.ptr 0 0 0, .p (.str s)] (rrH ws q b) (RQ ws b q (qBP ws s q) fun _=>und):=by
 refine qAA Tryz.func99 rfl rfl rfl ?_
 refine(qA0 ws q b s hg hq hs hn).holds.mono fun e H' h=>?_
 by_cases c:Tk ws b q s
 ·obtain⟨rfl,rfl⟩:=h.1 c
  obtain⟨rfl,c2⟩:=c
  exact⟨[],[],[], .returned und,rrH ws (q+1) false,rfl,sk,sk,(),q+1,false,qAh (by rw [c2];exact hn),by show qBP ws s q=_;rw [qBP,if_pos c2];rfl,rfl,rfl⟩
 ·obtain⟨rfl,rfl⟩:=h.2 c
  refine⟨[],[],[], .returned und,rrH ws q true,rfl,sk,sk,(),q,true,hq,?_,rfl,rfl⟩
  cases b
  ·show qBP ws s q=.inl q
   rw [qBP,if_neg (fun e=>c ⟨rfl,e⟩)]
  ·exact Out.bad
def wdR (ws:List Wd) (k:Int) (q:Nat):Rd (List UInt8):=if knd ws q=k then .inr (txt ws q,q+1) else .inl q
theorem qTa (ws:List Wd) (q:Nat) (b:Bool) (k:Int) (hk:k ≠ 0) (hg:GoodW ws) (hq:q<=ws.length):HoldsG cx 137 [.ptr 0 0 0, .p (i64 k)] (rrH ws q b) fun e H'=>∃ a q' b',(q'<=ws.length/\(b'=true->a=[]))/\Out b q (wdR ws k q) a q' b'/\e=.returned (.p (.str a))/\H'=rrH ws q' b':=by
 refine qAA Tryz.func137 rfl rfl rfl ?_
 have hl:=hg.len
 have hl':(ws.map Wd.cells).length=ws.length:=List.length_map ..
 cases b
 rotate_left
 ·refine VDraw.seq rfl ?_
  exact⟨[],[],[], .returned (.p (.str [])),rrH ws q true,rfl,sk,sk,[],q,true,⟨hq,fun _=>rfl⟩,Out.bad,rfl,rfl⟩
 have no:¬ knd ws q=k->Out false q (wdR ws k q) [] q true:=fun h=>by
  show wdR ws k q=.inl q
  rw [wdR,if_neg h]
 refine VDraw.seq rfl ?_
 refine QAD (fun h1=>?_) (fun h1=>?_)
 ·have h1:((ws.map Wd.cells).length:Int)<=(q:Nat):=h1
  rw [hl'] at h1
  exact⟨[],[],[], .returned (.p (.str [])),rrH ws q true,rfl,sk,sk,[],q,true,⟨hq,fun _=>rfl⟩,no (fun e=>absurd (qGK (ws:=ws) (q:=q) (by rw [e];exact hk)) (by omega)),rfl,rfl⟩
 have h1:¬ ((ws.map Wd.cells).length:Int)<=(q:Nat):=h1
 rw [hl'] at h1
 have hlt:q<ws.length:=by omega
 refine⟨_,⟨by omega,(wat ws q).cells,qCl hlt,rfl⟩,?_⟩
 refine QAD (fun h2=>?_) (fun h2=>?_)
 rotate_left
 ·have h2:¬ knd ws q=k:=h2
  exact⟨[],[],[], .returned (.p (.str [])),rrH ws q true,rfl,sk,sk,[],q,true,⟨hq,fun _=>rfl⟩,no h2,rfl,rfl⟩
 have h2:knd ws q=k:=h2
 refine⟨_,w6z,?_⟩
 refine VDraw.seq rfl ?_
 refine⟨(q:Int),by rw [show(q:Int)+1 - 1=(q:Int) by omega];exact w6z,?_⟩
 refine⟨_,⟨by omega,(wat ws q).cells,qCl hlt,rfl⟩,?_⟩
 exact⟨[],[],[], .returned (.p (.str (txt ws q))),rrH ws (q+1) false,rfl,sk,sk,txt ws q,q+1,false,⟨hlt,fun h=>by cases h⟩,by show wdR ws k q=_;rw [wdR,if_pos h2];rfl,rfl,rfl⟩
theorem qFd (ws:List Wd) (q:Nat) (b:Bool) (hg:GoodW ws) (hq:q<=ws.length):HoldsG cx 98 [.ptr 0 0 0] (rrH ws q b) (RQ ws b q (qCU ws q) fun t=>.p (.str t)):=by
 refine qAA Tryz.func98 rfl rfl rfl ?_
 refine(qTa ws q b 1 (by decide) hg hq).holds.mono fun e H' h=>?_
 obtain⟨a,q',b',⟨h1,_⟩,h2,rfl,rfl⟩:=h
 exact⟨[],[],[], .returned (.p (.str a)),rrH ws q' b',rfl,sk,sk,a,q',b',h1,h2,rfl,rfl⟩
theorem qU0 (ws:List Wd) (q:Nat):qCT ws q=(wdR ws 3 q).then fun t q=>.inr (qJv t,q):=by
 rw [qCT,wdR]
 split <;> rfl
theorem qXd {s:List UInt8} {k:Nat} (h:k<s.length):s[k]?=some (s.getD k 0):=by
 rw [List.getD_eq_getElem?_getD,List.getElem?_eq_getElem h];rfl
theorem qDX (ws:List Wd) (q:Nat) (b:Bool) (hg:GoodW ws) (hq:q<=ws.length):HoldsG cx 97 [.ptr 0 0 0] (rrH ws q b) (RQ ws b q (qCT ws q) fun n=>.p (i64 n)):=by
 refine qAA Tryz.func97 rfl rfl rfl ?_
 refine(qTa ws q b 3 (by decide) hg hq).holds.mono fun e H' h=>?_
 obtain⟨t,q',b',⟨h1,hb⟩,h2,rfl,rfl⟩:=h
 have hdig:t.length<=4/\∀ c∈t,48<=c.toNat/\c.toNat<=57:=by
  cases b'
  ·cases b
   ·have h2:wdR ws 3 q=.inr (t,q'):=h2
    rw [wdR] at h2
    split at h2
    ·rename_i hk
     injection h2 with h2;injection h2 with h3 h4
     rw [<- h3]
     exact qIA (qQq hg hk)
    ·cases h2
   ·exact absurd h2.1 (by decide)
  ·rw [hb rfl];exact⟨by simp,by simp⟩
 obtain⟨ht4,hdg⟩:=hdig
 refine⟨Nat,fun k=>[(3, .p (.str t)),(4, .p (i64 (qJv (t.take k)))),(5, .p (i64 k))],fun _=>rrH ws q' b',fun k=>k<=t.length,fun k=>t.length - k,?_,?_⟩
 ·exact⟨0,Nat.zero_le _,qAB [] [] [] rfl (sk) (sk) rfl⟩
 intro k hk
 refine QAD (fun h3=>?_) (fun h3=>?_)
 ·have h3:(k:Int)<(t.length:Nat):=h3
  have hkt:k<t.length:=by omega
  obtain⟨c,hc⟩:∃ c,c=t.getD k 0:=⟨_,rfl⟩
  have hbd:=hdg c (by rw [hc];exact qAL 0 hkt)
  have hv:=qF0 hdg k hk
  have hp:(10:Int) ^ k<=10 ^ 4:=by
   rcases (show k=0∨k=1∨k=2∨k=3∨k=4 by omega) with rfl | rfl | rfl | rfl | rfl <;> decide
  have hp4:(10:Int) ^ 4=10000:=by decide
  refine⟨10 * qJv (t.take k),w6z,?_⟩
  refine⟨_,⟨by omega,c,by rw [hc];exact qXd hkt,rfl⟩,?_⟩
  refine⟨(c.toNat:Int) - 48,qXc (by omega) (by omega),?_⟩
  refine⟨(c.toNat:Int) - 48,w6z,?_⟩
  refine⟨qJv (t.take (k+1)),by rw [qAY 0 hkt,<- hc,qF1];exact w6z,?_⟩
  refine⟨_,w6z,?_⟩
  exact⟨k+1,hkt,qAB [] [] [] rfl (sk) (sk) rfl,by show t.length - (k+1)<t.length - k;omega⟩
 ·have h3:¬ (k:Int)<(t.length:Nat):=h3
  have hke:k=t.length:=by omega
  subst hke
  refine⟨[],[],[], .returned (.p (i64 (qJv t))),rrH ws q' b',rfl,⟨_,rfl,by rw [qBg (Nat.le_refl _)];rfl⟩,sk,qJv t,q',b',h1,?_,rfl,rfl⟩
  rw [qU0]
  exact h2.then Out.same
theorem Out.mv {α:Type} {p p' q:Nat} {r:Rd α} {a:α} {b':Bool} (h:Out false p r a q b'):Out false p' r a q b':=h
theorem qSc {ws:List Wd} {nm pl:List UInt8} {m n:Int} {b:Bool} {q q9:Nat} {b9:Bool} {u:Unit} (o:Out b q (qBP ws tRB q) u q9 b9):Out b q (qBp ws nm m pl n q) ⟨nm,m,pl,n⟩ q9 b9:=o.then Out.same
theorem qQL (ws:List Wd) (q0:Nat) (b0:Bool) (hg:GoodW ws) (hq0:q0<=ws.length):HoldsG cx 138 [.ptr 0 0 0] (rrH ws q0 b0) (RQ ws b0 q0 (qHz ws q0) fun r=>.p r.pv):=by
 refine qAA Tryz.func138 rfl rfl rfl ?_
 have hl:=hg.len
 have hl':(ws.map Wd.cells).length=ws.length:=List.length_map ..
 refine(qFd ws q0 b0 hg hq0).holds.useT [] [] rfl (sk) (sk) fun e0 H0 hq=>?_
 obtain⟨nm,q1,b1,q1l,o1,rfl,rfl⟩:=hq
 refine⟨rfl,_,⟨2,(0,rrO ws q1 b1)::[(1,rO rf0)]⟩,rfl,rfl,?_⟩
 by_cases c1:Tk ws b1 q1 tLB
 rotate_left
 ·refine(qA0 ws q1 b1 tLB hg q1l (by decide) (by decide)).holds.useT [] [] rfl (sk) (sk) fun e0 H0 hq=>?_
  obtain⟨rfl,rfl⟩:=hq.2 c1
  refine⟨rfl,_,⟨3,(0,rrO ws q1 b1)::[(2,rO ⟨nm,0,[],0⟩),(1,rO rf0)]⟩,rfl,rfl,?_⟩
  exact⟨[],[],[], .returned (.p (⟨nm,0,[],0⟩:Rf).pv),rrH ws q1 b1,rfl,sk,sk,⟨nm,0,[],0⟩,q1,b1,q1l,o1.then (Out.no c1 Out.same),rfl,rfl⟩
 have q2l:q1+1<=ws.length:=qAh (by rw [c1.2];decide)
 refine(qA0 ws q1 b1 tLB hg q1l (by decide) (by decide)).holds.useT [] [] rfl (sk) (sk) fun e0 H0 hq=>?_
 obtain⟨rfl,rfl⟩:=hq.1 c1
 refine⟨rfl,_,⟨3,(0,rrO ws (q1+1) false)::[(2,rO ⟨nm,0,[],0⟩),(1,rO rf0)]⟩,rfl,rfl,?_⟩
 by_cases c2:Tk ws false (q1+1) qGg
 ·have q3l:q1+1+1<=ws.length:=qAh (by rw [c2.2];decide)
  refine(qA0 ws (q1+1) false qGg hg q2l (by decide) (by decide)).holds.useT [] [] rfl (sk) (sk) fun e0 H0 hq=>?_
  obtain⟨rfl,rfl⟩:=hq.1 c2
  refine⟨rfl,_,⟨3,(0,rrO ws ((q1+1)+1) false)::[(2,rO ⟨nm,0,[],0⟩),(1,rO rf0)]⟩,rfl,rfl,?_⟩
  obtain⟨q3,hq3⟩:∃ q3,q3=q1+1+1:=⟨_,rfl⟩
  rw [<- hq3] at q3l
  rw [<- hq3]
  refine(qA8 ws q3 false tRB hg q3l (by decide) (by decide)).holds.useT [] [] rfl (sk) (sk) fun e0 H0 hq=>?_
  obtain⟨u,q9,b9,q9l,o9,rfl,rfl⟩:=hq
  refine⟨rfl,_,⟨3,(0,rrO ws q9 b9)::[(2,rO ⟨nm,3,[],0⟩),(1,rO rf0)]⟩,rfl,rfl,?_⟩
  exact⟨[],[],[], .returned (.p (⟨nm,3,[],0⟩:Rf).pv),rrH ws q9 b9,rfl,sk,sk,⟨nm,3,[],0⟩,q9,b9,q9l,(o1.then (Out.yes c1 (Out.yes c2 (by rw [show q1+2=q3 by omega];exact(qSc o9).mv (p':=q1))))),rfl,rfl⟩
 refine(qA0 ws (q1+1) false qGg hg q2l (by decide) (by decide)).holds.useT [] [] rfl (sk) (sk) fun e0 H0 hq=>?_
 obtain⟨rfl,rfl⟩:=hq.2 c2
 refine⟨rfl,_,⟨3,(0,rrO ws (q1+1) false)::[(2,rO ⟨nm,0,[],0⟩),(1,rO rf0)]⟩,rfl,rfl,?_⟩
 by_cases c3:knd ws (q1+1)=3
 ·have hlt:q1+1<ws.length:=qGK (by rw [c3];decide)
  refine VDraw.seq rfl ?_
  refine And.intro (fun _=>?_) (fun h=>absurd (show((q1+1:Nat):Int)<((ws.map Wd.cells).length:Nat) by rw [hl'];omega) h)
  refine⟨_,⟨by omega,(wat ws (q1+1)).cells,qCl hlt,rfl⟩,?_⟩
  refine And.intro (fun _=>?_) (fun h=>absurd c3 h)
  refine(qDX ws (q1+1) false hg q2l).holds.useT [] [] rfl (sk) (sk) fun e0 H0 hq=>?_
  obtain⟨n,q4,b4,q4l,o4,rfl,rfl⟩:=hq
  refine⟨rfl,_,⟨3,(0,rrO ws q4 b4)::[(2,rO ⟨nm,0,[],0⟩),(1,rO rf0)]⟩,rfl,rfl,?_⟩
  refine(qA8 ws q4 b4 tRB hg q4l (by decide) (by decide)).holds.useT [] [] rfl (sk) (sk) fun e0 H0 hq=>?_
  obtain⟨u,q9,b9,q9l,o9,rfl,rfl⟩:=hq
  refine⟨rfl,_,⟨3,(0,rrO ws q9 b9)::[(2,rO ⟨nm,2,[],n⟩),(1,rO rf0)]⟩,rfl,rfl,?_⟩
  exact⟨[],[],[], .returned (.p (⟨nm,2,[],n⟩:Rf).pv),rrH ws q9 b9,rfl,sk,sk,⟨nm,2,[],n⟩,q9,b9,q9l,(o1.then (Out.yes c1 (Out.no c2 (Out.yes ⟨rfl,c3⟩ (o4.then (qSc o9)))).mv)),rfl,rfl⟩
 have c3':¬ (false=false/\knd ws (q1+1)=3):=fun h=>c3 h.2
 have hb:∀ {r:Rf} {q9:Nat} {b9:Bool},Out false (q1+1) ((qCU ws (q1+1)).then fun pl q=>if txt ws q=qDj then(qCT ws (q+1)).then fun n q=>qBp ws nm 1 pl n q else qBp ws nm 1 pl 0 q) r q9 b9->Out b0 q0 (qHz ws q0) r q9 b9:=
  fun h=>o1.then (Out.yes c1 (Out.no c2 (Out.no c3' h)).mv)
 refine VDraw.seqTo [(0, .ptr 0 0 0),(2, .ptr 1 0 0),(3, .ptr 2 0 0),(24,vB false)] ⟨3,[(0,rrO ws (q1+1) false),(2,rO ⟨nm,0,[],0⟩),(1,rO rf0)]⟩ rfl ?_ ?_
 ·refine QAD (fun c4=>?_) (fun c4=>?_)
  ·have c4:((q1+1:Nat):Int)<((ws.map Wd.cells).length:Nat):=c4
   rw [hl'] at c4
   refine⟨_,⟨by omega,(wat ws (q1+1)).cells,qCl (by omega),rfl⟩,?_⟩
   refine And.intro (fun h=>absurd h c3) (fun _=>?_)
   exact qAB [] [] [] rfl (sk) (sk) rfl
  ·exact qAB [] [] [] rfl (sk) (sk) rfl
 refine(qFd ws (q1+1) false hg q2l).holds.useT [] [] rfl (sk) (sk) fun e0 H0 hq=>?_
 obtain⟨pl,q5,b5,q5l,o5,rfl,rfl⟩:=hq
 refine⟨rfl,_,⟨3,(0,rrO ws q5 b5)::[(2,rO ⟨nm,0,[],0⟩),(1,rO rf0)]⟩,rfl,rfl,?_⟩
 by_cases c6:Tk ws b5 q5 qDj
 ·have q6l:q5+1<=ws.length:=qAh (by rw [c6.2];decide)
  refine(qA0 ws q5 b5 qDj hg q5l (by decide) (by decide)).holds.useT [] [] rfl (sk) (sk) fun e0 H0 hq=>?_
  obtain⟨rfl,rfl⟩:=hq.1 c6
  refine⟨rfl,_,⟨3,(0,rrO ws (q5+1) false)::[(2,rO ⟨nm,1,pl,0⟩),(1,rO rf0)]⟩,rfl,rfl,?_⟩
  refine(qDX ws (q5+1) false hg q6l).holds.useT [] [] rfl (sk) (sk) fun e0 H0 hq=>?_
  obtain⟨n,q7,b7,q7l,o7,rfl,rfl⟩:=hq
  refine⟨rfl,_,⟨3,(0,rrO ws q7 b7)::[(2,rO ⟨nm,1,pl,0⟩),(1,rO rf0)]⟩,rfl,rfl,?_⟩
  refine(qA8 ws q7 b7 tRB hg q7l (by decide) (by decide)).holds.useT [] [] rfl (sk) (sk) fun e0 H0 hq=>?_
  obtain⟨u,q9,b9,q9l,o9,rfl,rfl⟩:=hq
  refine⟨rfl,_,⟨3,(0,rrO ws q9 b9)::[(2,rO ⟨nm,1,pl,n⟩),(1,rO rf0)]⟩,rfl,rfl,?_⟩
  exact⟨[],[],[], .returned (.p (⟨nm,1,pl,n⟩:Rf).pv),rrH ws q9 b9,rfl,sk,sk,⟨nm,1,pl,n⟩,q9,b9,q9l,(hb (o5.then (Out.yes c6 (o7.then (qSc o9)).mv))),rfl,rfl⟩
 ·refine(qA0 ws q5 b5 qDj hg q5l (by decide) (by decide)).holds.useT [] [] rfl (sk) (sk) fun e0 H0 hq=>?_
  obtain⟨rfl,rfl⟩:=hq.2 c6
  refine⟨rfl,_,⟨3,(0,rrO ws q5 b5)::[(2,rO ⟨nm,1,pl,0⟩),(1,rO rf0)]⟩,rfl,rfl,?_⟩
  refine(qA8 ws q5 b5 tRB hg q5l (by decide) (by decide)).holds.useT [] [] rfl (sk) (sk) fun e0 H0 hq=>?_
  obtain⟨u,q9,b9,q9l,o9,rfl,rfl⟩:=hq
  refine⟨rfl,_,⟨3,(0,rrO ws q9 b9)::[(2,rO ⟨nm,1,pl,0⟩),(1,rO rf0)]⟩,rfl,rfl,?_⟩
  exact⟨[],[],[], .returned (.p (⟨nm,1,pl,0⟩:Rf).pv),rrH ws q9 b9,rfl,sk,sk,⟨nm,1,pl,0⟩,q9,b9,q9l,(hb (o5.then (Out.no c6 (qSc o9)))),rfl,rfl⟩
def LK {α:Type} (b0:Bool) (q0:Nat) (R:Rd α) (go:Nat->Rd α) (n:Nat) (q:Nat) (b:Bool):Prop:=∃ f,(b=false->n - q<f)/\∀ l q' b',Out b q (go f) l q' b'->Out b0 q0 R l q' b'
theorem LK.stop {α:Type} {b0:Bool} {q0:Nat} {R:Rd α} {go:Nat->Rd α} {n q:Nat} {b:Bool} {l:α} (h:LK b0 q0 R go n q b) (hs:b=false->∀ f,go (f+1)=.inr (l,q)):Out b0 q0 R l q b:=by
 obtain⟨f,hf,hk⟩:=h
 refine hk l q b ?_
 cases b
 ·obtain⟨f,rfl⟩:∃ g,f=g+1:=⟨f - 1,by have:=hf rfl;omega⟩
  rw [hs rfl f];exact Out.same
 ·exact Out.bad
theorem LK.step {α:Type} {b0:Bool} {q0:Nat} {R:Rd α} {go go':Nat->Rd α} {n q q2:Nat} {b2:Bool} (h:LK b0 q0 R go n q false) (hs:∀ f l q' b',Out b2 q2 (go' f) l q' b'->Out false q (go (f+1)) l q' b') (hlt:b2=false->q<q2/\q2<=n):LK b0 q0 R go' n q2 b2:=by
 obtain⟨f,hf,hk⟩:=h
 obtain⟨f,rfl⟩:∃ g,f=g+1:=⟨f - 1,by have:=hf rfl;omega⟩
 refine⟨f,fun e=>?_,fun l q' b' ho=>hk l q' b' (hs f l q' b' ho)⟩
 have:=hf rfl
 have:=hlt e
 omega
theorem qBi {α:Type} {p q:Nat} {r:Rd α} {a:α} (h:Out false p r a q false):r=.inr (a,q):=h
theorem qJ6 (ws:List Wd) (F q0:Nat) (b0:Bool) (key:List UInt8) (hk:key∈keysL++marksL) (hkn:key ≠ []) (hF:ws.length<F) (hg:GoodW ws) (hq0:q0<=ws.length):HoldsG cx 100 [.ptr 0 0 0, .p (.str key)] (rrH ws q0 b0) (RQ ws b0 q0 (qDm ws F key q0) fun l=>.p (qB5 l)):=by
 refine qAA Tryz.func100 rfl rfl rfl ?_
 have hl:=hg.len
 by_cases c1:Tk ws b0 q0 key
 rotate_left
 ·refine(qA0 ws q0 b0 key hg hq0 hk hkn).holds.useT [] [] rfl (sk) (sk) fun e0 H0 hq=>?_
  obtain⟨rfl,rfl⟩:=hq.2 c1
  refine⟨rfl,_,⟨1,(0,rrO ws q0 b0)::[]⟩,rfl,rfl,?_⟩
  exact⟨[],[],[], .returned (.p (qB5 [])),rrH ws q0 b0,rfl,⟨_,rfl, .inr (.inr ⟨4,rfl⟩)⟩,sk,[],q0,b0,hq0,Out.no c1 Out.same,rfl,rfl⟩
 have q1l:q0+1<=ws.length:=qAh (by rw [c1.2];exact hkn)
 refine(qA0 ws q0 b0 key hg hq0 hk hkn).holds.useT [] [] rfl (sk) (sk) fun e0 H0 hq=>?_
 obtain⟨rfl,rfl⟩:=hq.1 c1
 refine⟨rfl,_,⟨1,(0,rrO ws (q0+1) false)::[]⟩,rfl,rfl,?_⟩
 refine(qQL ws (q0+1) false hg q1l).holds.useT [] [] rfl (sk) (sk) fun e0 H0 hq=>?_
 obtain⟨r0,q2,b2,q2l,o2,rfl,rfl⟩:=hq
 refine⟨rfl,_,⟨1,(0,rrO ws q2 b2)::[]⟩,rfl,rfl,?_⟩
 refine⟨List Rf × Nat × Bool,fun x=>[(0, .ptr 0 0 0),(5, .sl 1 4 0 x.1.length)],fun x=>⟨2,[(1,qK7 x.1),(0,rrO ws x.2.1 x.2.2)]⟩,fun x=>x.2.1<=ws.length/\(x.2.2=false->x.1.length<=x.2.1)/\x.1.length<=1501/\LK b0 q0 (qDm ws F key q0) (fun f=>qCt ws (qHz ws) f x.1 x.2.1) ws.length x.2.1 x.2.2,fun x=>if x.2.2=true then 0 else ws.length+1 - x.2.1,?_,?_⟩
 ·refine⟨([r0],q2,b2),⟨q2l,fun e=>?_,by simp,F,fun _=>by simp only [];omega,fun l q' b' ho=>Out.yes c1 (o2.then ho).mv⟩,qAB [] [] [] rfl (sk) (sk) rfl⟩
  simp only [] at e
  subst e
  have:=qHJ (qBi o2)
  simp only [List.length_singleton];omega
 rintro⟨acc,q,b⟩ ⟨k1,k2,k3,k4⟩
 simp only [] at k1 k2 k3 k4
 by_cases c:Tk ws b q qAi
 ·have ql:q+1<=ws.length:=qAh (by rw [c.2];decide)
  refine(qA0 ws q b qAi hg k1 (by decide) (by decide)).holds.useT [] [] rfl (sk) (sk) fun e0 H0 hq=>?_
  obtain⟨rfl,rfl⟩:=hq.1 c
  refine⟨rfl,_,⟨2,(0,rrO ws (q+1) false)::[(1,qK7 acc)]⟩,rfl,rfl,?_⟩
  refine(qQL ws (q+1) false hg ql).holds.useT [] [] rfl (sk) (sk) fun e0 H0 hq=>?_
  obtain⟨r,q3,b3,q3l,o3,rfl,rfl⟩:=hq
  refine⟨rfl,_,⟨2,(0,rrO ws q3 b3)::[(1,qK7 acc)]⟩,rfl,rfl,?_⟩
  have hal:=k2 c.1
  refine⟨by show 0+1<=1;omega,[r.cells],rfl,?_⟩
  refine⟨by show 0+acc.length<=(acc.map Rf.cells).length;simp,acc.map Rf.cells,qAD (by simp),by show(acc.length+1) * 48<=140737488355328;omega,(acc++[r]).map Rf.cells,by simp,?_⟩
  have hlt:b3=false->q+1<q3:=fun e=>by subst e;exact qHJ (qBi o3)
  have c':=c
  obtain⟨rfl,ct⟩:=c'
  exact⟨(acc++[r],q3,b3),⟨q3l,fun e=>by have:=hlt e;show(acc++[r]).length<=q3;rw [qAK];omega,by show(acc++[r]).length<=1501;rw [qAK];omega,k4.step (fun f l q' b' ho=>by rw [qCt];exact Out.yes ⟨rfl,ct⟩ (o3.then ho).mv) (fun e=>⟨by have:=hlt e;show q<q3;omega,q3l⟩)⟩,qAB [] [(1,3)] [] rfl ⟨⟨rfl,rfl⟩,congrArg (fun k:Nat=>AV.sl 3 4 0 k) (qAK acc r).symm,trivial⟩ (sk) rfl,by show(if b3=true then 0 else ws.length+1 - q3)<(if false=true then 0 else ws.length+1 - q);cases b3 <;> simp <;> (try have:=hlt rfl) <;> omega⟩
 ·refine(qA0 ws q b qAi hg k1 (by decide) (by decide)).holds.useT [] [] rfl (sk) (sk) fun e0 H0 hq=>?_
  obtain⟨rfl,rfl⟩:=hq.2 c
  refine⟨rfl,_,⟨2,(0,rrO ws q b)::[(1,qK7 acc)]⟩,rfl,rfl,?_⟩
  exact⟨[1],[],[], .returned (.p (qB5 acc)),rrH ws q b,rfl,⟨_,rfl,⟨_,rfl,by show 0+acc.length<=(acc.map Rf.cells).length;simp,qAD (by simp)⟩⟩,sk,acc,q,b,k1,k4.stop (fun e f=>by rw [qCt,if_neg (fun h=>c ⟨e,h⟩)]),rfl,rfl⟩
def sgL:List (List UInt8):=[tEq,tNe,tLt,tLe]
def sg (i:Nat):List UInt8:=sgL.getD i []
theorem qXg:∀ i,i<4->sg i∈keysL++marksL/\sg i ≠ []
 | 0,_=>by decide
 | 1,_=>by decide
 | 2,_=>by decide
 | 3,_=>by decide
 | i+4,h=>by omega
theorem qUi {ws:List Wd} {q:Nat}:∀ {i:Nat},i<4->(∀ j,j<i->¬ txt ws q=sg j)->txt ws q=sg i->qHR ws q=.inr (((i+1:Nat):Int),q+1)
 | 0,_,_,h=>by rw [qHR,if_pos (show txt ws q=tEq from h)];rfl
 | 1,_,h0,h=>by rw [qHR,if_neg (show ¬ txt ws q=tEq from h0 0 (by omega)),if_pos (show txt ws q=tNe from h)];rfl
 | 2,_,h0,h=>by rw [qHR,if_neg (show ¬ txt ws q=tEq from h0 0 (by omega)),if_neg (show ¬ txt ws q=tNe from h0 1 (by omega)),if_pos (show txt ws q=tLt from h)];rfl
 | 3,_,h0,h=>by rw [qHR,if_neg (show ¬ txt ws q=tEq from h0 0 (by omega)),if_neg (show ¬ txt ws q=tNe from h0 1 (by omega)),if_neg (show ¬ txt ws q=tLt from h0 2 (by omega)),if_pos (show txt ws q=tLe from h)];rfl
 | i+4,h,_,_=>by omega
theorem qWS {ws:List Wd} {q:Nat} (h0:∀ j,j<4->¬ txt ws q=sg j):qHR ws q=.inl q:=by
 rw [qHR,if_neg (show ¬ txt ws q=tEq from h0 0 (by omega)),if_neg (show ¬ txt ws q=tNe from h0 1 (by omega)),if_neg (show ¬ txt ws q=tLt from h0 2 (by omega)),if_neg (show ¬ txt ws q=tLe from h0 3 (by omega))]
def sgO:AObj:=⟨74,false, .bx (sgL.map fun w=>.p (.str w))⟩
theorem qTq (ws:List Wd) (q:Nat) (b:Bool) (hg:GoodW ws) (hq:q<=ws.length):HoldsG cx 209 [.ptr 0 0 0] (rrH ws q b) (RQ ws b q (qHR ws q) fun n=>.p (i64 n)):=by
 refine qAA Tryz.func209 rfl rfl rfl ?_
 have hl:=hg.len
 refine⟨Nat,fun i=>[(0, .ptr 0 0 0),(3, .ptr 1 0 0),(4, .p (i64 i))],fun _=>⟨2,[(1,sgO),(0,rrO ws q b)]⟩,fun i=>i<=4/\∀ j,j<i->¬ Tk ws b q (sg j),fun i=>4 - i,?_,?_⟩
 ·exact⟨0,⟨by omega,fun j h=>by omega⟩,qAB [] [] [] rfl (sk) (sk) rfl⟩
 rintro i ⟨i1,i2⟩
 refine QAD (fun h1=>?_) (fun h1=>?_)
 ·have h1:(i:Int)<4:=h1
  have hi:i<4:=by omega
  obtain⟨s1,s2⟩:=qXg i hi
  refine⟨by omega,?_⟩
  refine⟨.p (.str (sg i)),qPL (by kernel_rfl) (by show(sgL.map fun w=>AV.p (.str w))[0+((i:Nat):Int).toNat * 1]?=some (AV.p (.str (sgL.getD i [])));rw [Int.toNat_natCast,Nat.mul_one,Nat.zero_add,List.getElem?_map,List.getD_eq_getElem?_getD,List.getElem?_eq_getElem (show i<sgL.length by exact hi)];rfl),?_⟩
  by_cases c:Tk ws b q (sg i)
  ·have q1l:q+1<=ws.length:=qAh (by rw [c.2];exact s2)
   refine(qA0 ws q b (sg i) hg hq s1 s2).holds.useT [] [] rfl (sk) (sk) fun e0 H0 hq=>?_
   obtain⟨rfl,rfl⟩:=hq.1 c
   refine⟨rfl,_,⟨2,(0,rrO ws (q+1) false)::[(1,sgO)]⟩,rfl,rfl,?_⟩
   refine⟨((i+1:Nat):Int),by show _=IntKind.i64.wrap (1+(i:Int));rw [show(1:Int)+(i:Int)=((i+1:Nat):Int) by omega];exact w6z,?_⟩
   refine⟨[],[],[], .returned (.p (i64 ((i+1:Nat):Int))),rrH ws (q+1) false,rfl,sk,sk,_,q+1,false,q1l,?_,rfl,rfl⟩
   obtain⟨rfl,c2⟩:=c
   show qHR ws q=_
   rw [qUi hi (fun j hj e=>i2 j hj ⟨rfl,e⟩) c2];rfl
  ·refine(qA0 ws q b (sg i) hg hq s1 s2).holds.useT [] [] rfl (sk) (sk) fun e0 H0 hq=>?_
   obtain⟨rfl,rfl⟩:=hq.2 c
   refine⟨rfl,_,⟨2,(0,rrO ws q b)::[(1,sgO)]⟩,rfl,rfl,?_⟩
   refine⟨_,w6z,?_⟩
   refine⟨i+1,⟨by omega,fun j hj=>?_⟩,qAB [] [] [] rfl (sk) (sk) rfl,by show 4 - (i+1)<4 - i;omega⟩
   rcases Nat.lt_or_eq_of_le (Nat.le_of_lt_succ hj) with h | h
   ·exact i2 j h
   ·rw [h];exact c
 ·have h1:¬ (i:Int)<4:=h1
  have:i=4:=by omega
  subst this
  refine⟨[],[],[], .returned (.p (i64 0)),rrH ws q true,rfl,sk,sk,0,q,true,hq,?_,rfl,rfl⟩
  cases b
  ·show qHR ws q=_
   rw [qWS (fun j hj e=>i2 j hj ⟨rfl,e⟩)];rfl
  ·exact Out.bad
def qSL:List Int->Int->Bool->List Int
 | [],n,d=>if d=true then [] else [n]
 | x::l,n,d=>(if n<=x/\d=false then [n] else [])++((if x=n then [] else [x])++qSL l n (d || decide (n<=x)))
theorem qIO {n:Int}:∀ {l:List Int},(∀ y∈l,n<y)->qSL l n true=l
 | [],_=>rfl
 | x::l,h=>by
  have hx:=h x (List.mem_cons_self ..)
  rw [qSL,if_neg (by simp),if_neg (by omega),Bool.true_or,qIO fun y hy=>h y (List.mem_cons_of_mem _ hy)];rfl
theorem qOO {n:Int}:∀ {l:List Int},Inc l->qSL l n false=qIN l n
 | [],_=>rfl
 | x::l,h=>by
  have h1:∀ y∈l,x<y:=(List.pairwise_cons.1 h).1
  have h2:Inc l:=(List.pairwise_cons.1 h).2
  rw [qSL,qIN]
  by_cases c:n<x
  ·rw [if_pos ⟨by omega,rfl⟩,if_neg (by omega),if_pos c,decide_eq_true (by omega),Bool.or_true,qIO fun y hy=>by have:=h1 y hy;omega];rfl
  ·by_cases c2:x=n
   ·rw [if_pos ⟨by omega,rfl⟩,if_pos c2,if_neg c,if_pos c2,decide_eq_true (by omega),Bool.or_true,qIO fun y hy=>by have:=h1 y hy;omega,c2];rfl
   ·rw [if_neg (by omega),if_neg c2,if_neg c,if_neg c2,decide_eq_false (by omega),Bool.or_false,qOO h2];rfl
theorem qRP {l:List Int} {n:Int} {k:Nat} {d:Bool} (hk:k<l.length):qSL (l.drop k) n d=(if n<=l.getD k 0/\d=false then [n] else [])++((if l.getD k 0=n then [] else [l.getD k 0])++qSL (l.drop (k+1)) n (d || decide (n<=l.getD k 0))):=by
 rw [List.drop_eq_getElem_cons hk,qSL,List.getD_eq_getElem?_getD,List.getElem?_eq_getElem hk];rfl
theorem qON (l:List Int) (n:Int) (hi:Inc l) (hl:l.length<=5000):Pure cx 210 [ints l,i64 n] (·=.ret [ints (qIN l n)]):=by
 refine qAC Tryz.func210 rfl rfl rfl ?_
 refine⟨Nat × List Int × Bool,fun x=>[(0, .p (ints l)),(1, .p (i64 n)),(5, .sl 0 1 0 x.2.1.length),(6,vB x.2.2),(7, .p (i64 x.1))],fun x=>⟨1,[(0,iO x.2.1)]⟩,fun x=>x.1<=l.length/\x.2.1.length<=2 * x.1/\x.2.1++qSL (l.drop x.1) n x.2.2=qIN l n,fun x=>l.length - x.1,?_,?_⟩
 ·exact⟨(0,[],false),⟨by simp,by simp,qOO hi⟩,qAB [] [] [(0,1)] rfl (sk) (sk) rfl⟩
 rintro⟨k,acc,d⟩ ⟨g1,g2,g3⟩
 simp only [] at g1 g2 g3
 refine QAD (fun h1=>?_) (fun h1=>?_)
 rotate_left
 ·have h1:¬ (k:Int)<((l.map i64).length:Nat):=h1
  rw [List.length_map] at h1
  rw [List.drop_eq_nil_of_le (by omega),qSL] at g3
  cases d
  ·rw [if_neg (by decide)] at g3
   refine⟨by show 0+1<=1;omega,[i64 n],rfl,?_⟩
   refine⟨by show 0+acc.length<=(acc.map i64).length;simp,acc.map i64,qAD (by simp),by show(acc.length+1) * 8<=140737488355328;omega,(acc++[n]).map i64,by simp,?_⟩
   exact endN (ints (acc++[n])) rfl ⟨_,rfl,by show 0+(acc.length+1)<=((acc++[n]).map i64).length;simp,qAD (by simp)⟩ (by rw [g3])
  ·rw [if_pos rfl,List.append_nil] at g3
   exact endN (ints acc) rfl ⟨_,rfl,by show 0+acc.length<=(acc.map i64).length;simp,qAD (by simp)⟩ (by rw [g3])
 have h1:(k:Int)<((l.map i64).length:Nat):=h1
 rw [List.length_map] at h1
 have hk:k<l.length:=by omega
 rw [qRP hk] at g3
 obtain⟨x,hx⟩:∃ x,x=l.getD k 0:=⟨_,rfl⟩
 rw [<- hx] at g3
 have hc:=qGM hk
 rw [<- hx] at hc
 refine⟨_,⟨by omega,i64 x,hc,rfl⟩,?_⟩
 by_cases c1:n<=x/\d=false
 ·obtain⟨c1,rfl⟩:=c1
  rw [if_pos ⟨c1,rfl⟩,decide_eq_true c1,Bool.or_true] at g3
  refine And.intro (fun _=>?_) (fun h=>absurd c1 h)
  refine⟨by show 0+1<=1;omega,[i64 n],rfl,?_⟩
  refine⟨by show 0+acc.length<=(acc.map i64).length;simp,acc.map i64,qAD (by simp),by show(acc.length+1) * 8<=140737488355328;omega,(acc++[n]).map i64,by simp,?_⟩
  refine⟨_,⟨by omega,i64 x,hc,rfl⟩,?_⟩
  refine And.intro (fun c2=>?_) (fun c2=>?_)
  ·have c2:x=n:=c2
   rw [if_pos c2] at g3
   refine⟨_,w6z,?_⟩
   exact⟨(k+1,acc++[n],true),⟨by simp only [];omega,by simp only [qAK];omega,by simp only [];rw [<- g3,List.append_assoc,List.nil_append]⟩,qAB [] [(0,2)] [] rfl ⟨rfl,rfl,congrArg (fun n=>AV.sl 2 1 0 n) (qAK acc _).symm,rfl,rfl,trivial⟩ (sk) rfl,by show l.length - (k+1)<l.length - k;omega⟩
  ·have c2:¬ x=n:=c2
   rw [if_neg c2] at g3
   refine⟨_,⟨by omega,i64 x,hc,rfl⟩,?_⟩
   refine⟨by show 0+1<=1;omega,[i64 x],rfl,?_⟩
   refine⟨by show 0+(acc.length+1)<=((acc++[n]).map i64).length;simp,(acc++[n]).map i64,qAD (by simp),by show(acc.length+1+1) * 8<=140737488355328;omega,(acc++[n]++[x]).map i64,by simp,?_⟩
   refine⟨_,w6z,?_⟩
   exact⟨(k+1,acc++[n]++[x],true),⟨by simp only [];omega,by simp only [qAK];omega,by simp only [];rw [<- g3,List.append_assoc,List.append_assoc]⟩,qAB [] [(0,4)] [] rfl ⟨rfl,rfl,congrArg (fun n=>AV.sl 4 1 0 n) (by show acc.length+1+1=(acc++[n]++[x]).length;simp),rfl,rfl,trivial⟩ (sk) rfl,by show l.length - (k+1)<l.length - k;omega⟩
 rw [if_neg c1] at g3
 have both:(d || decide (n<=x))=d:=by
  by_cases c:n<=x
  ·have:d=true:=by
    cases d
    ·exact absurd ⟨c,rfl⟩ c1
    ·rfl
   subst this;rfl
  ·rw [decide_eq_false c,Bool.or_false]
 rw [both,List.nil_append] at g3
 cases d
 ·refine And.intro (fun h=>absurd ⟨h,rfl⟩ c1) (fun _=>?_)
  refine⟨_,⟨by omega,i64 x,hc,rfl⟩,?_⟩
  refine And.intro (fun c2=>?_) (fun c2=>?_)
  ·have c2:x=n:=c2
   rw [if_pos c2] at g3
   refine⟨_,w6z,?_⟩
   exact⟨(k+1,acc,false),⟨by simp only [];omega,by simp only [];omega,by simp only [];rw [<- g3];rfl⟩,qAB [] [] [] rfl (sk) (sk) rfl,by show l.length - (k+1)<l.length - k;omega⟩
  ·have c2:¬ x=n:=c2
   rw [if_neg c2] at g3
   refine⟨_,⟨by omega,i64 x,hc,rfl⟩,?_⟩
   refine⟨by show 0+1<=1;omega,[i64 x],rfl,?_⟩
   refine⟨by show 0+acc.length<=(acc.map i64).length;simp,acc.map i64,qAD (by simp),by show(acc.length+1) * 8<=140737488355328;omega,(acc++[x]).map i64,by simp,?_⟩
   refine⟨_,w6z,?_⟩
   exact⟨(k+1,acc++[x],false),⟨by simp only [];omega,by simp only [qAK];omega,by simp only [];rw [<- g3,List.append_assoc]⟩,qAB [] [(0,2)] [] rfl ⟨rfl,rfl,congrArg (fun n=>AV.sl 2 1 0 n) (qAK acc _).symm,rfl,rfl,trivial⟩ (sk) rfl,by show l.length - (k+1)<l.length - k;omega⟩
 ·refine And.intro (fun _=>?_) (fun _=>?_)
  ·refine⟨_,⟨by omega,i64 x,hc,rfl⟩,?_⟩
   refine And.intro (fun c2=>?_) (fun c2=>?_)
   ·have c2:x=n:=c2
    rw [if_pos c2] at g3
    refine⟨_,w6z,?_⟩
    exact⟨(k+1,acc,true),⟨by simp only [];omega,by simp only [];omega,by simp only [];rw [<- g3];rfl⟩,qAB [] [] [] rfl (sk) (sk) rfl,by show l.length - (k+1)<l.length - k;omega⟩
   ·have c2:¬ x=n:=c2
    rw [if_neg c2] at g3
    refine⟨_,⟨by omega,i64 x,hc,rfl⟩,?_⟩
    refine⟨by show 0+1<=1;omega,[i64 x],rfl,?_⟩
    refine⟨by show 0+acc.length<=(acc.map i64).length;simp,acc.map i64,qAD (by simp),by show(acc.length+1) * 8<=140737488355328;omega,(acc++[x]).map i64,by simp,?_⟩
    refine⟨_,w6z,?_⟩
    exact⟨(k+1,acc++[x],true),⟨by simp only [];omega,by simp only [qAK];omega,by simp only [];rw [<- g3,List.append_assoc]⟩,qAB [] [(0,2)] [] rfl ⟨rfl,rfl,congrArg (fun n=>AV.sl 2 1 0 n) (qAK acc _).symm,rfl,rfl,trivial⟩ (sk) rfl,by show l.length - (k+1)<l.length - k;omega⟩
  ·refine⟨_,⟨by omega,i64 x,hc,rfl⟩,?_⟩
   refine And.intro (fun c2=>?_) (fun c2=>?_)
   ·have c2:x=n:=c2
    rw [if_pos c2] at g3
    refine⟨_,w6z,?_⟩
    exact⟨(k+1,acc,true),⟨by simp only [];omega,by simp only [];omega,by simp only [];rw [<- g3];rfl⟩,qAB [] [] [] rfl (sk) (sk) rfl,by show l.length - (k+1)<l.length - k;omega⟩
   ·have c2:¬ x=n:=c2
    rw [if_neg c2] at g3
    refine⟨_,⟨by omega,i64 x,hc,rfl⟩,?_⟩
    refine⟨by show 0+1<=1;omega,[i64 x],rfl,?_⟩
    refine⟨by show 0+acc.length<=(acc.map i64).length;simp,acc.map i64,qAD (by simp),by show(acc.length+1) * 8<=140737488355328;omega,(acc++[x]).map i64,by simp,?_⟩
    refine⟨_,w6z,?_⟩
    exact⟨(k+1,acc++[x],true),⟨by simp only [];omega,by simp only [qAK];omega,by simp only [];rw [<- g3,List.append_assoc]⟩,qAB [] [(0,2)] [] rfl ⟨rfl,rfl,congrArg (fun n=>AV.sl 2 1 0 n) (qAK acc _).symm,rfl,rfl,trivial⟩ (sk) rfl,by show l.length - (k+1)<l.length - k;omega⟩
theorem qDQ {l:List (List UInt8)} {s:List UInt8} (h:inL l s=true):s∈l:=by
 induction l with
 | nil=>simp [inL] at h
 | cons x r ih=>
  simp only [inL,Bool.or_eq_true,decide_eq_true_eq] at h
  rcases h with rfl | h
  ·simp
  ·exact List.mem_cons_of_mem _ (ih h)
theorem qDr {k:Int} {t:List UInt8} (h:qAo k t=true):1<=t.length/\t.length<=10:=by
 have ne:∀ {t:List UInt8},t ≠ []->1<=t.length:=by intro t ht;cases t <;> simp at ht ⊢
 unfold qAo at h
 split at h
 ·simp [qAj] at h;exact⟨ne h.1.1.1.1,h.1.1.1.2⟩
 ·split at h
  ·exact(by decide:∀ t∈keysL,1<=t.length/\t.length<=10) t (qDQ h)
  ·split at h
   ·simp [qHL] at h
    exact⟨ne h.1.1.1,by omega⟩
   ·split at h
    ·exact(by decide:∀ t∈marksL,1<=t.length/\t.length<=10) t (qDQ h)
    ·cases h
structure JS where
 k:Nat
 a:Nat
 b:Nat
 lg:Nat
 n:Nat
 xs:List UInt8
 pre:List UInt8
structure JI where
 a:Nat
 b:Nat
 n:Nat
 xs:List UInt8
def tenL:List UInt8:=[48,49,50,51,52,53,54,55,56,57]
def qPQ:Nat->Nat->List UInt8
 | 0,_=>[]
 | f+1,n=>if n<10 then [tenL.getD n 0] else qPQ f (n / 10)++[tenL.getD (n % 10) 0]
theorem qRi:∀ f n,(qPQ f n).length<=f
 | 0,_=>by simp [qPQ]
 | f+1,n=>by
  simp only [qPQ]
  split
  ·simp
  ·have:=qRi f (n / 10)
   simp
   omega
structure Dr where
 kind:UInt8
 which:UInt8
 letters:List UInt8
 n:UInt16
 down:UInt8
 over:UInt8
abbrev Dr.cells (d:Dr):List PV:=[u8 d.kind,u8 d.which, .lst (d.letters.map u8), .int .u16 (d.n.toNat:Int),u8 d.down,u8 d.over]
def qYj (d:Dr):Prop:=0<d.down.toNat % 3/\d.down.toNat<100
instance (d:Dr):Decidable (qYj d):=inferInstanceAs (Decidable (_/\_))
structure WS where
 k:Nat
 a:Nat
 b:Nat
 out:List Wd
def qVF (c:UInt8):Prop:=c.toNat=32∨c.toNat=10
def qF6 (r:List UInt8):Bool:=match r with
 | []=>true
 | c::_=>!(decide (c.toNat=32) || decide (c.toNat=10)) && !List.isPrefixOf [45,45] r && !List.isPrefixOf [40,42] r
theorem qKy {r:List UInt8} (h:qF6 r=true):∀ f,qBG f r=.inl 0
 | 0=>rfl
 | f+1=>by
  cases r with
  | nil=>rfl
  | cons c r=>
   simp only [qF6,Bool.and_eq_true,Bool.not_eq_true',Bool.or_eq_false_iff,decide_eq_false_iff_not] at h
   obtain⟨⟨h1,h2⟩,h3⟩:=h
   rw [qBG]
   rw [if_neg (by omega),if_neg (by rw [h2];simp),if_neg (by rw [h3];simp)]
def qSD (g r:List UInt8):Prop:=∀ f,(g++r).length<=f->qBG f (g++r)=.inl g.length
theorem qFW {r:List UInt8} (hr:qF6 r=true):∀ {g:List UInt8},(∀ c∈g,qVF c)->qSD g r
 | [],_,f,_=>qKy hr f
 | c::g,hg,f,hf=>by
  cases f with
  | zero=>simp at hf
  | succ f=>
   have hc:qVF c:=hg c (by simp)
   have ih:=qFW hr (g:=g) (fun x hx=>hg x (List.mem_cons_of_mem _ hx)) f (by simpa using hf)
   rw [List.cons_append,qBG]
   simp only [List.drop_succ_cons,List.drop_zero]
   rw [if_pos (show c.toNat=32∨c.toNat=10 from hc),ih]
   simp [shift]
theorem qEg (f:UInt8->Bool):∀ (t u:List UInt8),qAM f (t++u)=if qAM f t=t.length then t.length+qAM f u else qAM f t
 | [],u=>by simp [qAM]
 | c::t,u=>by
  have ih:=qEg f t u
  have hl:=qCi f t
  by_cases h:f c=true
  ·have h1:qAM f (c::t++u)=qAM f (t++u)+1:=by simp [qAM,h]
   have h2:qAM f (c::t)=qAM f t+1:=by simp [qAM,h]
   rw [h1,h2,ih,List.length_cons]
   by_cases e:qAM f t=t.length
   ·rw [if_pos e,if_pos (by omega)];omega
   ·rw [if_neg e,if_neg (by omega)]
  ·have h1:qAM f (c::t++u)=0:=by simp [qAM,h]
   have h2:qAM f (c::t)=0:=by simp [qAM,h]
   rw [h1,h2,List.length_cons,if_neg (by omega)]
theorem qCS {f:UInt8->Bool} {t:List UInt8}:qAM f t=t.length ↔ ∀ c∈t,f c=true:=by
 induction t with
 | nil=>simp [qAM]
 | cons c t ih=>
  have hl:=qCi f t
  simp only [qAM,List.length_cons]
  by_cases h:f c=true
  ·rw [if_pos h]
   constructor
   ·intro e x hx
    rcases List.mem_cons.1 hx with rfl | hx
    ·exact h
    ·exact ih.1 (by omega) x hx
   ·intro e;rw [ih.2 fun x hx=>e x (by simp [hx])]
  ·rw [if_neg h]
   constructor
   ·intro e;omega
   ·intro e;exact absurd (e c (by simp)) h
theorem qOw (f:UInt8->Bool) (r:List UInt8):∀ c∈r.take (qAM f r),f c=true:=by
 induction r with
 | nil=>simp [qAM]
 | cons c r ih=>
  simp only [qAM]
  split
  ·rename_i h
   intro x hx
   simp only [List.take_succ_cons,List.mem_cons] at hx
   rcases hx with rfl | hx
   ·exact h
   ·exact ih x hx
  ·simp
def qMo (c:UInt8):Prop:=qVF c∨c.toNat=40
inductive Fol:List UInt8->List UInt8->Prop
 | nil (a:List UInt8):Fol a []
 | bl (a:List UInt8) (c:UInt8) (b:List UInt8) (h:qMo c):Fol a (c::b)
 | same (c:UInt8) (a b:List UInt8):Fol (c::a) (c::b)
theorem qXJ {c:UInt8} (h:qMo c):qAR c=false:=by
 unfold qMo qVF at h
 simp [qAR,qBZ,isLet]
 omega
theorem qTS {c d:UInt8} (h:qMo d):inL marksL [c,d]=false:=by
 cases e:inL marksL [c,d] with
 | false=>rfl
 | true=>
  have:=qDQ e
  have hd:d=32∨d=10∨d=40:=by
   rcases h with (h | h) | h
   ·left;exact UInt8.toNat_inj.1 h
   ·right;left;exact UInt8.toNat_inj.1 h
   ·right;right;exact UInt8.toNat_inj.1 h
  simp [marksL] at this
  rcases hd with rfl | rfl | rfl <;> simp at this
theorem qUz {tx a b:List UInt8} {kd:Int} (hr:qAo kd tx=true) (h:qBO (tx++a)=(kd,tx)) (hf:Fol a b):qBO (tx++b)=(kd,tx):=by
 have hlen:=qDr hr
 have hne:tx ≠ []:=by intro e;subst e;simp at hlen
 unfold qBO at h
 split at h
 ·rename_i hpos
  have htk:(tx++a).take (qAM qAR (tx++a))=tx:=by
   split at h
   ·exact(Prod.mk.inj h).2
   ·split at h <;> exact(Prod.mk.inj h).2
  have hall:qAM qAR tx=tx.length:=qCS.2 (by rw [<- htk];exact qOw _ _)
  have hsp:qAM qAR (tx++a)=tx.length:=by
   have:=congrArg List.length htk
   have hle:=qCi qAR (tx++a)
   rw [List.length_take] at this
   omega
  have hsa:qAM qAR a=0:=by rw [qEg,if_pos hall] at hsp;omega
  have hsb:qAM qAR b=0:=by
   cases hf with
   | nil=>rfl
   | bl _ c b' hc=>simp [qAM,qXJ hc]
   | same c a' b'=>
    simp only [qAM] at hsa ⊢
    split at hsa
    ·omega
    ·rename_i hc;rw [if_neg hc]
  have hspb:qAM qAR (tx++b)=tx.length:=by rw [qEg,if_pos hall,hsb];rfl
  unfold qBO
  rw [hspb,if_pos (by omega),List.take_left]
  rw [htk] at h
  exact h
 ·rename_i hz
  have hsz:qAM qAR (tx++a)=0:=by omega
  obtain⟨c,tx',rfl⟩:∃ c t,tx=c::t:=by cases tx with
   | nil=>exact absurd rfl hne
   | cons c t=>exact⟨c,t,rfl⟩
  have hc:qAR c=false:=by
   simp only [List.cons_append,qAM] at hsz
   split at hsz
   ·omega
   ·rename_i h;simpa using h
  have hszb:¬ 0<qAM qAR (c::tx'++b):=by simp [qAM,hc]
  unfold qBO
  rw [if_neg hszb]
  split at h
  ·rename_i h2
   have e:=(Prod.mk.inj h).2
   have hk:=(Prod.mk.inj h).1
   simp only [Bool.and_eq_true,decide_eq_true_eq] at h2
   have hl2:tx'.length=1:=by
    have:=congrArg List.length e
    rw [List.length_take] at this
    simp at this h2
    omega
   obtain⟨d,rfl⟩:∃ d,tx'=[d]:=by
    match tx',hl2 with
    | [d],_=>exact⟨d,rfl⟩
   have ht:([c,d]++b).take 2=[c,d]:=rfl
   have ha:([c,d]++a).take 2=[c,d]:=rfl
   rw [ha] at h2
   rw [ht,if_pos (by simp [h2.2]),hk]
  ·rename_i h2
   have e:=(Prod.mk.inj h).2
   have hk:=(Prod.mk.inj h).1
   have hl1:tx'=[]:=by
    have:=congrArg List.length e
    rw [List.length_take] at this
    simp only [List.length_append,List.length_cons] at this
    exact List.eq_nil_of_length_eq_zero (by omega)
   subst hl1
   rw [if_neg,hk]
   ·rfl
   ·intro h3
    simp only [Bool.and_eq_true,decide_eq_true_eq] at h3
    cases hf with
    | nil=>simp at h3
    | bl _ x b' hx=>
     have:([c]++x::b').take 2=[c,x]:=rfl
     rw [this,qTS hx] at h3
     simp at h3
    | same x a' b'=>
     apply h2
     simp only [Bool.and_eq_true,decide_eq_true_eq]
     exact⟨by simp,h3.2⟩
theorem qSV {tx a b:List UInt8} (hne:tx ≠ []) (h:qF6 (tx++a)=true) (hf:Fol a b):qF6 (tx++b)=true:=by
 cases tx with
 | nil=>exact absurd rfl hne
 | cons c t=>
  simp only [List.cons_append,qF6,Bool.and_eq_true,Bool.not_eq_true',Bool.or_eq_false_iff,decide_eq_false_iff_not] at h ⊢
  obtain⟨⟨h1,h2⟩,h3⟩:=h
  refine⟨⟨h1,?_⟩,?_⟩
  ·cases t with
   | cons d t=>simpa [List.isPrefixOf] using h2
   | nil=>
    cases hf with
    | nil=>simp [List.isPrefixOf]
    | bl _ x b' hx=>
     unfold qMo qVF at hx
     simp [List.isPrefixOf]
     rintro _ rfl
     simp at hx
    | same x a' b'=>simpa [List.isPrefixOf] using h2
  ·cases t with
   | cons d t=>simpa [List.isPrefixOf] using h3
   | nil=>
    cases hf with
    | nil=>simp [List.isPrefixOf]
    | bl _ x b' hx=>
     unfold qMo qVF at hx
     simp [List.isPrefixOf]
     rintro _ rfl
     simp at hx
    | same x a' b'=>simpa [List.isPrefixOf] using h3
theorem qMn:∀ t∈keysL,qAM qAR t=t.length/\qBZ (t.headD 0)=false/\t ≠ []:=by decide
theorem qS3:∀ t∈marksL,qBO t=(4,t)/\qF6 t=true:=by decide
theorem qK5 {kd:Int} {tx:List UInt8} (h:qAo kd tx=true):qBO tx=(kd,tx)/\qF6 tx=true:=by
 have hlen:=qDr h
 have alnStop:∀ {t:List UInt8},qAM qAR t=t.length->t ≠ []->qF6 t=true:=by
  intro t ha hne
  cases t with
  | nil=>rfl
  | cons c t=>
   have hc:=qCS.1 ha c (by simp)
   simp only [qF6,Bool.and_eq_true,Bool.not_eq_true',Bool.or_eq_false_iff,decide_eq_false_iff_not]
   have:c.toNat ≠ 32/\c.toNat ≠ 10/\c.toNat ≠ 45/\c.toNat ≠ 40:=by
    simp [qAR,qBZ,isLet] at hc
    omega
   refine⟨⟨⟨this.1,this.2.1⟩,?_⟩,?_⟩
   ·simp [List.isPrefixOf]
    rintro rfl
    exact absurd rfl this.2.2.1
   ·simp [List.isPrefixOf]
    rintro rfl
    exact absurd rfl this.2.2.2
 have one:∀ {t:List UInt8},qAM qAR t=t.length->t ≠ []->qBO t=(if inL keysL t then(2,t) else if qBZ (t.headD 0) then(3,t) else(1,t)):=by
  intro t ha hne
  unfold qBO
  have:0<t.length:=by cases t <;> simp at hne ⊢
  rw [ha,if_pos this,List.take_length]
 unfold qAo at h
 split at h
 ·rename_i hk
  subst hk
  simp [qAj] at h
  obtain⟨⟨⟨⟨h1,h2⟩,h3⟩,h4⟩,h5⟩:=h
  refine⟨?_,alnStop h4 h1⟩
  rw [one h4 h1,h5]
  have:qBZ (tx.headD 0)=false:=by
   cases tx with
   | nil=>exact absurd rfl h1
   | cons c t=>
    have h3:isLet c=true:=h3
    show qBZ c=false
    simp [isLet,qBZ] at h3 ⊢
    omega
  rw [this]
  rfl
 ·split at h
  ·rename_i hk
   subst hk
   obtain⟨h1,h2,h3⟩:=qMn tx (qDQ h)
   refine⟨?_,alnStop h1 h3⟩
   rw [one h1 h3,h]
   rfl
  ·split at h
   ·rename_i hk
    subst hk
    simp [qHL] at h
    obtain⟨⟨⟨h1,h2⟩,h3⟩,h4⟩:=h
    have ha:qAM qAR tx=tx.length:=qCS.2 fun c hc=>by simp [qAR,qCS.1 h3 c hc]
    have hd:qBZ (tx.headD 0)=true:=by
     cases tx with
     | nil=>exact absurd rfl h1
     | cons c t=>exact qCS.1 h3 c (by simp)
    have hk:inL keysL tx=false:=by
     cases e:inL keysL tx with
     | false=>rfl
     | true=>rw [(qMn tx (qDQ e)).2.1] at hd;cases hd
    refine⟨?_,alnStop ha h1⟩
    rw [one ha h1,hk,hd]
    rfl
   ·split at h
    ·rename_i hk
     subst hk
     exact qS3 tx (qDQ h)
    ·cases h
theorem qR5 {p:Nat × Nat} {t:List UInt8} (h:∀ c∈t,c.toNat ≠ 10):qIi p t=(p.1,p.2+t.length):=by
 induction t generalizing p with
 | nil=>rfl
 | cons c t ih=>
  rw [qLt,ih fun x hx=>h x (by simp [hx])]
  simp [adv,h c (by simp)]
  omega
theorem qI8 {kd:Int} {tx:List UInt8} (h:qAo kd tx=true):∀ c∈tx,c.toNat ≠ 10:=by
 have aln:∀ {t:List UInt8},qAM qAR t=t.length->∀ c∈t,c.toNat ≠ 10:=by
  intro t ha c hc
  have:=qCS.1 ha c hc
  simp [qAR,qBZ,isLet] at this
  omega
 unfold qAo at h
 split at h
 ·simp [qAj] at h
  exact aln h.1.2
 ·split at h
  ·exact aln (qMn tx (qDQ h)).1
  ·split at h
   ·simp [qHL] at h
    exact aln (qCS.2 fun c hc=>by simp [qAR,qCS.1 h.1.2 c hc])
   ·split at h
    ·exact(by decide:∀ t∈marksL,∀ c∈t,c.toNat ≠ 10) tx (qDQ h)
    ·cases h
inductive Lay:Nat × Nat->List UInt8->List Wd->List UInt8->Prop
 | nil (p:Nat × Nat) (suf:List UInt8):Lay p [] [] suf
 | cons {p:Nat × Nat} {g T:List UInt8} {w:Wd} {ws:List Wd} {suf:List UInt8} {l c:Nat} (hsk:qSD g (w.text++(T++suf))) (h1:qBO (w.text++(T++suf))=(w.kind,w.text)) (hr:qAo w.kind w.text=true)
   (hp:qIi p g=(l,c)) (hl:w.line=l) (hc:w.col=c) (h:Lay (l,c+w.text.length) T ws suf):Lay p (g++(w.text++T)) (w::ws) suf
theorem qXK (pre s:List UInt8):at_ (pre++s) pre.length=qIi (1,1) pre:=by simp [at_]
theorem qSm {p:Nat × Nat} {T:List UInt8} {ws:List Wd} {suf:List UInt8} (h:Lay p T ws suf):∀ (pre:List UInt8) (acc:List Wd) (f:Nat),qIi (1,1) pre=p->acc.length+ws.length<=1500 ->
  qEB (f+ws.length) (pre++(T++suf)) pre.length acc=qEB f (pre++(T++suf)) (pre++T).length (acc++ws):=by
 induction h with
 | nil p suf=>intro pre acc f _ _;simp
 | @cons p g T w ws suf l c hsk h1 hr hp hl hc h ih=>
  intro pre acc f hpre hlen
  simp only [List.length_cons] at hlen ⊢
  obtain⟨s,hs⟩:∃ s,s=pre++(g++(w.text++T)++suf):=⟨_,rfl⟩
  have hd:s.drop pre.length=g++(w.text++(T++suf)):=by rw [hs];simp
  have hd2:s.drop (pre.length+g.length)=w.text++(T++suf):=by rw [<- List.drop_drop,hd];simp
  have hwl:=qDr hr
  have hsl:s.length=pre.length+(g++(w.text++(T++suf))).length:=by rw [hs];simp
  have hat:at_ s (pre.length+g.length)=(l,c):=by
   have:s=(pre++g)++(w.text++(T++suf)):=by rw [hs];simp
   rw [this,<- List.length_append,qXK,qEN,hpre,hp]
  have hsk':qBG s.length (s.drop pre.length)=.inl g.length:=by rw [hd];exact hsk _ (by omega)
  rw [<- hs,show f+(ws.length+1)=(f+ws.length)+1 by omega,qEB,hsk']
  simp only []
  rw [qGm,if_neg (by rw [hsl];simp;omega),hd2,h1]
  simp only [hr]
  rw [if_neg (by omega),hat]
  have hw:(⟨w.kind,w.text,((l,c):Nat × Nat).1,((l,c):Nat × Nat).2⟩:Wd)=w:=by
   obtain⟨a,b,c',d⟩:=w
   simp only [] at hl hc
   subst hl hc
   rfl
  have hw':(⟨w.kind,w.text,(l:Int),(c:Int)⟩:Wd)=w:=hw
  simp only []
  rw [hw']
  have:=ih (pre++g++w.text) (acc++[w]) f (by rw [qEN,qEN,hpre,hp,qR5 (qI8 hr)]) (by simp;omega)
  have e1:pre++g++w.text++(T++suf)=s:=by rw [hs];simp
  have e2:(pre++g++w.text).length=pre.length+g.length+w.text.length:=by simp;omega
  have e3:(pre++g++w.text++T).length=(pre++(g++(w.text++T))).length:=by simp
  rw [e1,e2,e3] at this
  rw [this]
  simp
theorem Lay.len {p:Nat × Nat} {T:List UInt8} {ws:List Wd} {suf:List UInt8} (h:Lay p T ws suf):ws.length<=T.length:=by
 induction h with
 | nil=>simp
 | cons hsk h1 hr hp hl hc h ih=>
  have:=qDr hr
  simp only [List.length_cons,List.length_append]
  omega
abbrev qBb:=List (List UInt8)
def qAe (n:Int):List UInt8:=qPQ 4 n.toNat
def qHc (n:Int):qBb:=if n<0 then [qAn,qAe (-n)] else [qAe n]
def qGf (r:Rf):qBb:=if r.mode=3 then [tLB,qGg,tRB] else if r.mode=2 then [tLB,qAe r.n,tRB] else if r.mode=1 then(if 0<r.n then [tLB,r.plate,qDj,qAe r.n,tRB] else [tLB,r.plate,tRB]) else []
def qBy (r:Rf):qBb:=r.name::qGf r
def qFM {α:Type} (f:α->qBb):List α->qBb
 | []=>[]
 | a::r=>f a++r.flatMap fun b=>qAi::f b
def qHI (k:Int):List UInt8:=if k=1 then tEq else if k=2 then tNe else if k=3 then tLt else tLe
def lvl (op:Int):Nat:=if op=9 then 1 else if op=8 then 2 else if op=7 then 3 else 4
def inT (k:Nat) (p:Int × qBb):qBb:=if lvl p.1<k then tLP::(p.2++[tRP]) else p.2
def qB2 (op n rel val:Int) (r:Rf) (st:List Int):qBb:=
 if op=6 then [qBo,tLP]++(qBy r++[tEq,qAe val,tRP,qHI rel,qAe n])
 else if op=5 then qBy r++([tIn,tLC]++(qFM (fun n=>[qAe n]) st++[tRC]))
 else qBy r++[qHI op,qAe n]
def qWs (op n rel val:Int) (r:Rf) (st:List Int) (ps:List (Int × qBb)):qBb:=
 if op=9 then inT 1 (ps.getD 0 (0,[]))++tOr::inT 2 (ps.getD 1 (0,[]))
 else if op=8 then inT 2 (ps.getD 0 (0,[]))++qDA::inT 3 (ps.getD 1 (0,[]))
 else if op=7 then qGX::inT 3 (ps.getD 0 (0,[]))
 else qB2 op n rel val r st
def Cd.op:Cd->Int
 | .mk op _ _ _ _ _ _=>op
mutual
def qAm:Cd->qBb
 | .mk op n rel val r st ar=>qWs op n rel val r st (qFS ar)
def qFS:List Cd->List (Int × qBb)
 | []=>[]
 | c::r=>(c.op,qAm c)::qFS r
end
def qAF (k:Nat) (c:Cd):qBb:=inT k (c.op,qAm c)
def qBr (l:List Int):qBb:=l.flatMap qHc
def qBf:List Cs->qBb
 | []=>[]
 | [c]=>qCQ::qAu::qBr c.nums
 | c::d::r=>qAm c.cond++(qAu::(qBr c.nums++(qAZ::qBf (d::r))))
def qBL (l:List Cs):qBb:=tLC::(qBf l++[tRC])
def qAT (key:List UInt8) (l:List Rf):qBb:=if l=[] then [] else key::qFM qBy l
def qEb (d:De):qBb:=
 if d.kind=1 then [qCP,qAe d.n] else if d.kind=2 then [qCO,d.name,tEq,qAe d.n]
 else if d.kind=3 then [qAx,d.name]++((if d.plate=[] then [] else [tLB,d.plate,tRB])++([qAu,qAe d.n]++(qAT qAg d.refs++(tEq::qBL d.cases))))
 else if d.kind=4 then [qBS,d.name,qAu,qAe d.n]++qAT qBd d.refs
 else if d.kind=5 then qB4::(qAT qAg d.refs++(tEq::qBL d.cases)) else []
def declT (d:De):qBb:=qEb d++[qAZ]
def spW:Bool->qBb->List UInt8
 | _,[]=>[]
 | b,w::r=>(if b then [32] else [])++(w++spW true r)
theorem qP9:∀ (b:Bool) (x y:qBb),spW b (x++y)=spW b x++spW (b || decide (x ≠ [])) y
 | b,[],y=>by simp [spW]
 | b,w::r,y=>by
  show(if b then [32] else [])++(w++spW true (r++y))=((if b then [32] else [])++(w++spW true r))++_
  rw [qP9 true r y]
  simp [List.append_assoc]
theorem qJ1 (x y:qBb):spW true (x++y)=spW true x++spW true y:=by rw [qP9];simp
theorem qTi:∀ {x:qBb},x ≠ []->spW true x=32::spW false x
 | [],h=>absurd rfl h
 | _::_,_=>rfl
def qMg (d:De):List UInt8:=spW false (declT d)++[10]
def qBF (ds:List De):List UInt8:=ds.flatMap qMg
def qGa (ds:List De):Nat:=(ds.map fun d=>(declT d).length).sum
def txtV (ds:List De):List PV:=if qBH ds=true then(if (qBF ds).length<=8000/\qGa ds<=1500 then [.str (qBF ds),i64 0] else [.str [],i64 3]) else [.str [],i64 380]
end Go.Proofs.YtohfoaplnjcihaaGreatDoor
namespace Go.Proofs.YtohfoaplnjcihaaGreatDoor
open Go Y
set_option maxRecDepth 100000
set_option maxHeartbeats 4000000
theorem qP0:∀ n,n<10->(tenL.getD n 0).toNat=48+n:=by decide
structure DigOK (t:List UInt8) (n:Nat) (f:Nat):Prop where
 ne:t ≠ []
 len:t.length<=f
 dig:∀ c∈t,48<=c.toNat/\c.toNat<=57
 zero:n=0->t=[48]
 head:0<n->(t.headD 0).toNat ≠ 48
 val:qJv t=n
theorem qUI:∀ (f n:Nat),n<10 ^ (f+1)->DigOK (qPQ (f+1) n) n (f+1)
 | f,n,h=>by
  rw [qPQ]
  by_cases c:n<10
  ·rw [if_pos c]
   have hv:=qP0 n c
   refine⟨by simp,by simp,fun x hx=>?_,fun e=>by subst e;rfl,fun e=>?_,?_⟩
   ·rw [List.mem_singleton.1 hx];omega
   ·show(tenL.getD n 0).toNat ≠ 48;omega
   ·show 10 * (0:Int)+(((tenL.getD n 0).toNat:Int) - 48)=n;omega
  ·rw [if_neg c]
   obtain⟨g,rfl⟩:∃ g,f=g+1:=by
    cases f with
    | zero=>exfalso;omega
    | succ g=>exact⟨g,rfl⟩
   have ih:=qUI g (n / 10) (by rw [Nat.pow_succ] at h;omega)
   have hv:=qP0 (n % 10) (by omega)
   refine⟨by simp,by have:=ih.len;simp only [List.length_append,List.length_singleton];omega,fun x hx=>?_,fun e=>by omega,fun _=>?_,?_⟩
   ·rcases List.mem_append.1 hx with hx | hx
    ·exact ih.dig x hx
    ·rw [List.mem_singleton.1 hx];omega
   ·have hh:=ih.head (by omega)
    have hne:=ih.ne
    cases hd:qPQ (g+1) (n / 10) with
    | nil=>exact absurd hd hne
    | cons x r=>rw [hd] at hh;exact hh
   ·rw [qF1,ih.val];omega
theorem qEL {n:Int} (h:qBt n=true):qHL (qAe n)=true/\qJv (qAe n)=n:=by
 simp only [qBt,Bool.and_eq_true,decide_eq_true_eq] at h
 have hd:=qUI 3 n.toNat (by show n.toNat<10000;omega)
 refine⟨?_,by rw [qAe,hd.val];omega⟩
 unfold qHL qAe
 simp only [Bool.and_eq_true,decide_eq_true_eq,Bool.or_eq_true]
 refine⟨⟨⟨hd.ne,hd.len⟩,qCS.2 fun c hc=>?_⟩,?_⟩
 ·have:=hd.dig c hc
  simp only [qBZ,Bool.and_eq_true,decide_eq_true_eq];exact this
 ·by_cases c:n.toNat=0
  ·exact .inl (hd.zero c)
  ·exact .inr (hd.head (by omega))
def AtW (ws:List Wd):Nat->qBb->Prop
 | _,[]=>True
 | q,t::r=>txt ws q=t/\AtW ws (q+1) r
theorem qBQ {ws:List Wd}:∀ {q:Nat} {x y:qBb},AtW ws q (x++y) ↔ AtW ws q x/\AtW ws (q+x.length) y
 | q,[],y=>by simp [AtW]
 | q,t::r,y=>by
  show(txt ws q=t/\AtW ws (q+1) (r++y)) ↔ _
  rw [qBQ (q:=q+1) (x:=r),show q+1+r.length=q+(t::r).length by simp only [List.length_cons];omega]
  exact⟨fun ⟨a,b,c⟩=>⟨⟨a,b⟩,c⟩,fun ⟨⟨a,b⟩,c⟩=>⟨a,b,c⟩⟩
theorem qJU {t:List UInt8} (h:qAj t=true):t ≠ []/\inL keysL t=false/\qHL t=false/\inL marksL t=false:=by
 simp only [qAj,Bool.and_eq_true,decide_eq_true_eq,Bool.not_eq_true'] at h
 obtain⟨⟨⟨⟨h1,h2⟩,h3⟩,h4⟩,h5⟩:=h
 refine⟨h1,h5,?_,?_⟩
 ·cases e:qHL t with
  | false=>rfl
  | true=>
   exfalso
   have hd:=(qIA e).2
   cases t with
   | nil=>exact h1 rfl
   | cons c r=>
    have:=hd c (List.mem_cons_self ..)
    have h3:isLet c=true:=h3
    simp only [isLet,Bool.or_eq_true,Bool.and_eq_true,decide_eq_true_eq] at h3
    omega
 ·cases e:inL marksL t with
  | false=>rfl
  | true=>
   exfalso
   have key:∀ s∈marksL,isLet (s.headD 0)=false:=by decide
   rw [key t (qDQ e)] at h3
   cases h3
theorem qQr {t:List UInt8} (h:qHL t=true):t ≠ []/\inL keysL t=false/\qAj t=false/\inL marksL t=false:=by
 have hn:t ≠ []:=by
  simp only [qHL,Bool.and_eq_true,decide_eq_true_eq] at h
  exact h.1.1.1
 have hd:=(qIA h).2
 have hdig:qBZ (t.headD 0)=true:=by
  cases t with
  | nil=>exact absurd rfl hn
  | cons c r=>
   have:=hd c (List.mem_cons_self ..)
   simpa [qBZ] using this
 refine⟨hn,?_,?_,?_⟩
 ·cases e:inL keysL t with
  | false=>rfl
  | true=>
   exfalso
   have key:∀ s∈keysL,qBZ (s.headD 0)=false:=by decide
   rw [key t (qDQ e)] at hdig
   cases hdig
 ·cases e:qAj t with
  | false=>rfl
  | true=>rw [(qJU e).2.2.1] at h;cases h
 ·cases e:inL marksL t with
  | false=>rfl
  | true=>
   exfalso
   have key:∀ s∈marksL,qBZ (s.headD 0)=false:=by decide
   rw [key t (qDQ e)] at hdig
   cases hdig
theorem qKR {ws:List Wd} (hg:GoodW ws) {q:Nat} (h:qAj (txt ws q)=true):knd ws q=1:=by
 obtain⟨f1,f2,f3,f4⟩:=qJU h
 have hr:=hg.at (qAh f1)
 unfold qAo at hr
 split at hr
 ·assumption
 ·split at hr
  ·rw [f2] at hr;cases hr
  ·split at hr
   ·rw [f3] at hr;cases hr
   ·split at hr
    ·rw [f4] at hr;cases hr
    ·cases hr
theorem qMl {ws:List Wd} (hg:GoodW ws) {q:Nat} (h:qHL (txt ws q)=true):knd ws q=3:=by
 obtain⟨f1,f2,f3,f4⟩:=qQr h
 have hr:=hg.at (qAh f1)
 unfold qAo at hr
 split at hr
 ·rw [f3] at hr;cases hr
 ·split at hr
  ·rw [f2] at hr;cases hr
  ·split at hr
   ·assumption
   ·split at hr
    ·rw [f4] at hr;cases hr
    ·cases hr
theorem qVC {ws:List Wd} (hg:GoodW ws) {q:Nat} {s:List UInt8} (hs:s∈keysL++marksL) (h:txt ws q=s) (hn:s ≠ []):¬ knd ws q=3/\¬ knd ws q=1:=by
 have:=qT9 hg hs h hn
 omega
theorem qDN {t s:List UInt8} (h:qAj t=true) (hs:s∈keysL++marksL):t ≠ s:=by
 intro e
 subst e
 have key:∀ s∈keysL++marksL,qAj s=false:=by decide
 rw [key t hs] at h
 cases h
theorem qNz {t s:List UInt8} (h:qHL t=true) (hs:s∈keysL++marksL):t ≠ s:=by
 intro e
 subst e
 have key:∀ s∈keysL++marksL,qHL s=false:=by decide
 rw [key t hs] at h
 cases h
theorem qAl {ws:List Wd} (_:GoodW ws) {q:Nat} {s:List UInt8} (h:txt ws q=s):qBP ws s q=.inr ((),q+1):=if_pos h
section
variable {ws:List Wd} (hg:GoodW ws)
include hg
theorem qCs {q:Nat} {t:List UInt8} (hn:qAj t=true) (h:txt ws q=t):qCU ws q=.inr (t,q+1):=by
 subst h
 rw [qCU,if_pos (qKR hg hn)]
theorem qCF {q:Nat} {n:Int} (hn:qBt n=true) (h:txt ws q=qAe n):qCT ws q=.inr (n,q+1):=by
 obtain⟨h1,h2⟩:=qEL hn
 rw [qCT,if_pos (qMl hg (by rw [h];exact h1)),h,h2]
theorem qKC {q:Nat} {r:Rf} (hr:qBl r=true) (h:AtW ws q (qBy r)) (hf:¬ txt ws (q+(qBy r).length)=tLB):qHz ws q=.inr (r,q+(qBy r).length):=by
 obtain⟨nm,m,pl,n⟩:=r
 rw [qBl,Bool.and_eq_true] at hr
 obtain⟨hn,hr⟩:=hr
 simp only [] at hn hr
 have hn1:qCU ws q=.inr (nm,q+1):=qCs hg hn h.1
 have h2:AtW ws (q+1) (qGf ⟨nm,m,pl,n⟩):=h.2
 rw [qHz,hn1]
 show(if txt ws (q+1)=tLB then _ else _)=_
 by_cases c3:m=3
 ·subst c3
  simp only [or_true,if_true,Bool.and_eq_true,decide_eq_true_eq] at hr
  obtain⟨rfl,rfl⟩:=hr
  have h2:AtW ws (q+1) [tLB,qGg,tRB]:=h2
  rw [if_pos h2.1,if_pos h2.2.1,qBp,qAl hg h2.2.2.1];rfl
 ·by_cases c2:m=2
  ·subst c2
   have hr:(decide (pl=[]) && qBt n)=true:=hr
   simp only [Bool.and_eq_true,decide_eq_true_eq] at hr
   obtain⟨rfl,hn⟩:=hr
   have h2:AtW ws (q+1) [tLB,qAe n,tRB]:=h2
   obtain⟨d1,d2⟩:=qEL hn
   rw [if_pos h2.1,if_neg (by rw [h2.2.1];exact qNz d1 (by decide)),if_pos (qMl hg (by rw [h2.2.1];exact d1)),qCF hg hn h2.2.1]
   show qBp ws nm 2 [] n (q+1+1+1)=_
   rw [qBp,qAl hg h2.2.2.1];rfl
  ·by_cases c1:m=1
   ·subst c1
    have hr:(qAj pl && qBt n)=true:=hr
    simp only [Bool.and_eq_true] at hr
    obtain⟨hp,hn⟩:=hr
    by_cases c:0<n
    ·have e:qGf ⟨nm,1,pl,n⟩=[tLB,pl,qDj,qAe n,tRB]:=by simp [qGf,c]
     rw [e] at h2
     rw [if_pos h2.1,if_neg (by rw [h2.2.1];exact qDN hp (by decide)),if_neg (by rw [qKR hg (by rw [h2.2.1];exact hp)];decide),qCs hg hp h2.2.1]
     show(if txt ws (q+1+1+1)=qDj then _ else _)=_
     rw [if_pos h2.2.2.1,qCF hg hn h2.2.2.2.1]
     show qBp ws nm 1 pl n (q+1+1+1+1+1)=_
     rw [qBp,qAl hg h2.2.2.2.2.1,qBy,e];rfl
    ·have hn0:n=0:=by
      simp only [qBt,Bool.and_eq_true,decide_eq_true_eq] at hn
      omega
     subst hn0
     have h2:AtW ws (q+1) [tLB,pl,tRB]:=h2
     rw [if_pos h2.1,if_neg (by rw [h2.2.1];exact qDN hp (by decide)),if_neg (by rw [qKR hg (by rw [h2.2.1];exact hp)];decide),qCs hg hp h2.2.1]
     show(if txt ws (q+1+1+1)=qDj then _ else _)=_
     rw [if_neg (by rw [h2.2.2.1];decide)]
     rw [qBp,qAl hg h2.2.2.1];rfl
   ·by_cases c0:m=0
    ·subst c0
     have hr:(decide (pl=[]) && decide (n=0))=true:=hr
     simp only [Bool.and_eq_true,decide_eq_true_eq] at hr
     obtain⟨rfl,rfl⟩:=hr
     have hf:¬ txt ws (q+1)=tLB:=hf
     rw [if_neg hf];rfl
    ·exfalso
     rw [if_neg (by omega),if_neg c1,if_neg c2] at hr
     cases hr
omit hg in
theorem qLK {α:Type} {rd:Nat->Rd α} {f:α->qBb} {ok:α->Prop} {stop:Nat->Prop} (hc:∀ q,txt ws q=qAi->stop q) (hrd:∀ q a,ok a->AtW ws q (f a)->stop (q+(f a).length)->rd q=.inr (a,q+(f a).length)):∀ (F:Nat) (l acc:List α) (q:Nat),l.length<F->(∀ a∈l,ok a)->AtW ws q (l.flatMap fun b=>qAi::f b)->stop (q+(l.flatMap fun b=>qAi::f b).length)->¬ txt ws (q+(l.flatMap fun b=>qAi::f b).length)=qAi->qCt ws rd F acc q=.inr (acc++l,q+(l.flatMap fun b=>qAi::f b).length)
 | 0,l,acc,q,h,_,_,_,_=>absurd h (by omega)
 | F+1,[],acc,q,_,_,_,_,he=>by
  have he:¬ txt ws q=qAi:=he
  rw [qCt,if_neg he,List.append_nil];rfl
 | F+1,a::l,acc,q,hF,hok,hat,hs,he=>by
  rw [List.flatMap_cons,List.cons_append] at hat hs he ⊢
  have h1:=hat.1
  have h2:=qBQ.1 hat.2
  rw [qCt,if_pos h1]
  have e:q+(qAi::(f a++l.flatMap fun b=>qAi::f b)).length=q+1+(f a).length+(l.flatMap fun b=>qAi::f b).length:=by simp only [List.length_cons,List.length_append];omega
  rw [e] at hs he ⊢
  have hst:stop (q+1+(f a).length):=by
   cases l with
   | nil=>exact hs
   | cons b l'=>exact hc _ h2.2.1
  rw [hrd (q+1) a (hok a (List.mem_cons_self ..)) h2.1 hst]
  show qCt ws rd F (acc++[a]) (q+1+(f a).length)=_
  rw [qLK hc hrd F l (acc++[a]) _ (by simp only [List.length_cons] at hF;omega) (fun x hx=>hok x (List.mem_cons_of_mem _ hx)) h2.2 hs he,List.append_assoc];rfl
omit hg in
theorem qLO {α:Type} {rd:Nat->Rd α} {f:α->qBb} {ok:α->Prop} {stop:Nat->Prop} (hc:∀ q,txt ws q=qAi->stop q) (hrd:∀ q a,ok a->AtW ws q (f a)->stop (q+(f a).length)->rd q=.inr (a,q+(f a).length)) {F:Nat} {l:List α} {q:Nat} (hl:l ≠ []) (hF:l.length<=F) (hok:∀ a∈l,ok a) (hat:AtW ws q (qFM f l)) (hs:stop (q+(qFM f l).length)) (he:¬ txt ws (q+(qFM f l).length)=qAi):qEa ws rd F q=.inr (l,q+(qFM f l).length):=by
 cases l with
 | nil=>exact absurd rfl hl
 | cons a l=>
  rw [qFM] at hat hs he ⊢
  have h2:=qBQ.1 hat
  rw [List.length_append,<- Nat.add_assoc] at hs he ⊢
  have hst:stop (q+(f a).length):=by
   cases l with
   | nil=>exact hs
   | cons b l'=>exact hc _ h2.2.1
  rw [qEa,hrd q a (hok a (List.mem_cons_self ..)) h2.1 hst]
  show qCt ws rd F [a] (q+(f a).length)=_
  rw [qLK hc hrd F l [a] _ (by simp only [List.length_cons] at hF;omega) (fun x hx=>hok x (List.mem_cons_of_mem _ hx)) h2.2 hs he];rfl
theorem qOM {q:Nat} {n:Int} (hn:qGW n=true) (h:AtW ws q (qHc n)):qIM ws q=.inr (n,q+(qHc n).length):=by
 simp only [qGW,Bool.and_eq_true,decide_eq_true_eq] at hn
 rw [qHc] at h ⊢
 by_cases c:n<0
 ·rw [if_pos c] at h ⊢
  rw [qIM,if_pos h.1,qCF hg (n:=-n) (by simp only [qBt,Bool.and_eq_true,decide_eq_true_eq];omega) h.2.1]
  show Sum.inr (- -n,q+1+1)=_
  rw [Int.neg_neg];rfl
 ·rw [if_neg c] at h ⊢
  have hb:qBt n=true:=by simp only [qBt,Bool.and_eq_true,decide_eq_true_eq];omega
  rw [qIM,if_neg (by rw [h.1];exact qNz (qEL hb).1 (by decide)),qCF hg hb h.1];rfl
theorem qLT:∀ (F:Nat) (l acc:List Int) (q:Nat),l.length<F->(∀ n∈l,qGW n=true)->AtW ws q (qBr l)->¬ (txt ws (q+(qBr l).length)=qAn∨knd ws (q+(qBr l).length)=3)->qC4 ws F acc q=.inr (acc++l,q+(qBr l).length)
 | 0,l,acc,q,h,_,_,_=>absurd h (by omega)
 | F+1,[],acc,q,_,_,_,he=>by
  have he:¬ (txt ws q=qAn∨knd ws q=3):=he
  rw [qC4,if_neg he,List.append_nil];rfl
 | F+1,n::l,acc,q,hF,hok,hat,he=>by
  rw [qBr,List.flatMap_cons] at hat he ⊢
  have h2:=qBQ.1 hat
  have hn:=hok n (List.mem_cons_self ..)
  rw [List.length_append,<- Nat.add_assoc] at he ⊢
  have hc:txt ws q=qAn∨knd ws q=3:=by
   have h1:=h2.1
   rw [qHc] at h1
   simp only [qGW,Bool.and_eq_true,decide_eq_true_eq] at hn
   by_cases c:n<0
   ·rw [if_pos c] at h1
    exact .inl h1.1
   ·rw [if_neg c] at h1
    exact .inr (qMl hg (by rw [h1.1];exact(qEL (by simp only [qBt,Bool.and_eq_true,decide_eq_true_eq];omega)).1))
  rw [qC4,if_pos hc,qOM hg hn h2.1]
  show qC4 ws F (acc++[n]) (q+(qHc n).length)=_
  rw [qLT F l (acc++[n]) _ (by simp only [List.length_cons] at hF;omega) (fun x hx=>hok x (List.mem_cons_of_mem _ hx)) h2.2 he,List.append_assoc];rfl
theorem qLF {F:Nat} {l:List Int} {q:Nat} (hF:l.length<=F) (hl:l ≠ []) (hok:∀ n∈l,qGW n=true) (hat:AtW ws q (qBr l)) (he:¬ (txt ws (q+(qBr l).length)=qAn∨knd ws (q+(qBr l).length)=3)):qDL ws F q=.inr (l,q+(qBr l).length):=by
 cases l with
 | nil=>exact absurd rfl hl
 | cons n l=>
  rw [qBr,List.flatMap_cons] at hat he ⊢
  have h2:=qBQ.1 hat
  rw [List.length_append,<- Nat.add_assoc] at he ⊢
  rw [qDL,qOM hg (hok n (List.mem_cons_self ..)) h2.1]
  show qC4 ws F [n] (q+(qHc n).length)=_
  rw [qLT hg F l [n] _ (by simp only [List.length_cons] at hF;omega) (fun x hx=>hok x (List.mem_cons_of_mem _ hx)) h2.2 he];rfl
end
end Go.Proofs.YtohfoaplnjcihaaGreatDoor
namespace Go.Proofs.YtohfoaplnjcihaaGreatDoor
open Go Y
set_option maxRecDepth 100000
set_option maxHeartbeats 4000000
theorem qRR {l:List Int}:∀ (f k:Nat),qPj l f k=true->∀ i,k<=i->i<k+f->qBt (l.getD i 0)=true/\(i=0∨l.getD (i - 1) 0<l.getD i 0)
 | 0,k,_,i,h1,h2=>absurd h2 (by omega)
 | f+1,k,h,i,h1,h2=>by
  rw [qPj] at h
  simp only [Bool.and_eq_true,Bool.or_eq_true,decide_eq_true_eq] at h
  by_cases c:i=k
  ·subst c
   exact h.1
  ·exact qRR f (k+1) h.2 i (by omega) (by omega)
theorem qDq {l:List Int} (h:qHr l=true):l ≠ []/\(∀ n∈l,qBt n=true)/\qOy l=l:=by
 simp only [qHr,Bool.and_eq_true,decide_eq_true_eq] at h
 obtain⟨⟨h1,h2⟩,h3⟩:=h
 have hi:=qRR l.length 0 h3
 refine⟨fun e=>by rw [e] at h1;simp at h1,fun n hn=>?_,?_⟩
 ·obtain⟨i,hi1,rfl⟩:=List.getElem_of_mem hn
  have:=(hi i (by omega) (by omega)).1
  rw [List.getD_eq_getElem?_getD,List.getElem?_eq_getElem hi1] at this
  exact this
 ·have hinc:Inc l:=by
   rw [Inc,List.pairwise_iff_getElem]
   have key:∀ (d i:Nat),i+d+1<l.length->l.getD i 0<l.getD (i+d+1) 0:=by
    intro d
    induction d with
    | zero=>
     intro i hd
     have:=(hi (i+0+1) (by omega) (by omega)).2
     rcases this with h | h
     ·omega
     ·exact h
    | succ d ih=>
     intro i hd
     have a:=ih i (by omega)
     have:=(hi (i+(d+1)+1) (by omega) (by omega)).2
     rcases this with h | h
     ·omega
     ·rw [show i+(d+1)+1 - 1=i+d+1 by omega] at h
      omega
   intro i j hi1 hj hij
   have:=key (j - i - 1) i (by omega)
   rw [show i+(j - i - 1)+1=j by omega,List.getD_eq_getElem?_getD,List.getElem?_eq_getElem hi1,List.getD_eq_getElem?_getD,List.getElem?_eq_getElem hj] at this
   exact this
  have hs:=qJ3 l [] List.Pairwise.nil
  refine qMt hs.1 hinc fun y=>?_
  rw [qOy] at *
  rw [hs.2]
  simp
def qFT (t:List UInt8):Prop:=qAj t=true∨t=qGX∨t=tLP∨t=qBo
theorem head_ne {t s:List UInt8} (h:qFT t) (hs:s∈keysL++marksL) (h1:s ≠ qGX) (h2:s ≠ tLP) (h3:s ≠ qBo):t ≠ s:=by
 rcases h with h | rfl | rfl | rfl
 ·exact qDN h hs
 ·exact h1.symm
 ·exact h2.symm
 ·exact h3.symm
theorem qLg:∀ r:List Int,(r.flatMap fun b=>qAi::[qAe b]).length=2 * r.length
 | []=>rfl
 | y::r=>by rw [List.flatMap_cons,List.length_append,qLg r];simp only [List.length_cons,List.length_nil];omega
structure CB (ws:List Wd) (c:Cd):Prop where
 neg:∀ F q,4 * (ws.length - q)+2<=F->AtW ws q (qAF 3 c)->qFk ws F q=.inr (c,q+(qAF 3 c).length)
 conj:∀ F q,4 * (ws.length - q)+3<=F->AtW ws q (qAF 2 c)->∃ f,4 * (ws.length - (q+(qAF 2 c).length))+1<=f/\qCZ ws F q=qIh ws f c (q+(qAF 2 c).length)
 cond:∀ F q,4 * (ws.length - q)+4<=F->AtW ws q (qAF 1 c)->¬ txt ws (q+(qAF 1 c).length)=qDA->∃ f,4 * (ws.length - (q+(qAF 1 c).length))+1<=f/\qCa ws F q=orR ws f c (q+(qAF 1 c).length)
 head:∃ t r,qAm c=t::r/\qFT t
section
variable {ws:List Wd} (hg:GoodW ws)
theorem qQp {F q:Nat} {c:Cd} (hF:1<=F) (h:¬ txt ws q=tOr):orR ws F c q=.inr (c,q):=by
 obtain⟨f,rfl⟩:∃ f,F=f+1:=⟨F - 1,by omega⟩
 rw [orR,if_neg h]
theorem qOg {F q:Nat} {c:Cd} (hF:1<=F) (h:¬ txt ws q=qDA):qIh ws F c q=.inr (c,q):=by
 obtain⟨f,rfl⟩:∃ f,F=f+1:=⟨F - 1,by omega⟩
 rw [qIh,if_neg h]
theorem qFp {c:Cd} (he:qAF 2 c=qAF 3 c) (h:∀ F q,4 * (ws.length - q)+2<=F->AtW ws q (qAF 3 c)->qFk ws F q=.inr (c,q+(qAF 3 c).length)) (F q:Nat) (hF:4 * (ws.length - q)+3<=F) (ha:AtW ws q (qAF 2 c)):∃ f,4 * (ws.length - (q+(qAF 2 c).length))+1<=f/\qCZ ws F q=qIh ws f c (q+(qAF 2 c).length):=by
 obtain⟨F,rfl⟩:∃ f,F=f+1:=⟨F - 1,by omega⟩
 rw [he] at ha ⊢
 refine⟨F,by omega,?_⟩
 rw [qCZ,h F q (by omega) ha];rfl
theorem qEv {c:Cd} (he:qAF 1 c=qAF 2 c) (hp:1<=(qAF 2 c).length) (h:∀ F q,4 * (ws.length - q)+3<=F->AtW ws q (qAF 2 c)->∃ f,4 * (ws.length - (q+(qAF 2 c).length))+1<=f/\qCZ ws F q=qIh ws f c (q+(qAF 2 c).length)) (F q:Nat) (hF:4 * (ws.length - q)+4<=F) (ha:AtW ws q (qAF 1 c)) (hn:¬ txt ws (q+(qAF 1 c).length)=qDA):∃ f,4 * (ws.length - (q+(qAF 1 c).length))+1<=f/\qCa ws F q=orR ws f c (q+(qAF 1 c).length):=by
 obtain⟨F,rfl⟩:∃ f,F=f+1:=⟨F - 1,by omega⟩
 rw [he] at ha hn ⊢
 obtain⟨f,h1,h2⟩:=h F q (by omega) ha
 refine⟨F,by omega,?_⟩
 rw [qCa,h2,qOg (by omega) hn];rfl
include hg
theorem qID {c:Cd} (hl:lvl c.op<3) (h:∀ F q,4 * (ws.length - q)+4<=F->AtW ws q (qAF 1 c)->¬ txt ws (q+(qAF 1 c).length)=qDA->∃ f,4 * (ws.length - (q+(qAF 1 c).length))+1<=f/\qCa ws F q=orR ws f c (q+(qAF 1 c).length)) (F q:Nat) (hF:4 * (ws.length - q)+2<=F) (ha:AtW ws q (qAF 3 c)):qFk ws F q=.inr (c,q+(qAF 3 c).length):=by
 have e1:qAF 1 c=qAm c:=by
  rw [qAF,inT,if_neg]
  show ¬ lvl c.op<1
  unfold lvl
  split
  ·decide
  ·split
   ·decide
   ·split <;> decide
 have e3:qAF 3 c=tLP::(qAm c++[tRP]):=if_pos hl
 rw [e1] at h
 rw [e3] at ha ⊢
 have h1:=ha.1
 have h2:=qBQ.1 ha.2
 have h3:txt ws (q+1+(qAm c).length)=tRP:=h2.2.1
 have hq:q<ws.length:=qAh (by rw [h1];decide)
 obtain⟨F,rfl⟩:∃ f,F=f+2:=⟨F - 2,by omega⟩
 obtain⟨f,g1,g2⟩:=h F (q+1) (by omega) h2.1 (by rw [h3];decide)
 rw [qFk,if_neg (by rw [h1];decide),qDF,if_pos h1,g2,qQp (by omega) (by rw [h3];decide)]
 show(qBP ws tRP (q+1+(qAm c).length)).then _=_
 rw [qAl hg h3]
 show Sum.inr (c,q+1+(qAm c).length+1)=_
 congr 2
 simp only [List.length_cons,List.length_append,List.length_nil];omega
omit hg in
theorem qNl {q:Nat} {k:Int} (hk:1<=k/\k<=4) (h:txt ws q=qHI k):qHR ws q=.inr (k,q+1):=by
 rcases (show k=1∨k=2∨k=3∨k=4 by omega) with rfl | rfl | rfl | rfl
 ·have h:txt ws q=tEq:=h
  rw [qHR,if_pos h]
 ·have h:txt ws q=tNe:=h
  rw [qHR,if_neg (by rw [h];decide),if_pos h]
 ·have h:txt ws q=tLt:=h
  rw [qHR,if_neg (by rw [h];decide),if_neg (by rw [h];decide),if_pos h]
 ·have h:txt ws q=tLe:=h
  rw [qHR,if_neg (by rw [h];decide),if_neg (by rw [h];decide),if_neg (by rw [h];decide),if_pos h]
theorem qRE {op n rel val:Int} {r:Rf} {st:List Int} (h7:¬ op=7) (h8:¬ op=8) (h9:¬ op=9) (hb:qAQ op n rel val r st=true) (F q:Nat) (hF:4 * (ws.length - q)+1<=F) (ha:AtW ws q (qB2 op n rel val r st)):qDF ws F q=.inr (.mk op n rel val r st [],q+(qB2 op n rel val r st).length)/\¬ txt ws q=qGX:=by
 obtain⟨F,rfl⟩:∃ f,F=f+1:=⟨F - 1,by omega⟩
 unfold qAQ at hb
 by_cases c6:op=6
 ·subst c6
  rw [if_neg (by omega),if_neg (by omega),if_pos rfl] at hb
  simp only [Bool.and_eq_true,decide_eq_true_eq] at hb
  obtain⟨⟨⟨⟨⟨⟨b1,b2⟩,b3⟩,b4⟩,b5⟩,b6⟩,rfl⟩:=hb
  obtain⟨nm,m,pl,k⟩:=r
  simp only [] at b2
  subst b2
  simp only [qBl,or_true,if_true,Bool.and_eq_true,decide_eq_true_eq] at b1
  obtain⟨b0,rfl,rfl⟩:=b1
  have e:qB2 6 n rel val ⟨nm,3,[],0⟩ []=[qBo,tLP,nm,tLB,qGg,tRB,tEq,qAe val,tRP,qHI rel,qAe n]:=rfl
  rw [e] at ha ⊢
  obtain⟨a1,a2,a3,a4,a5,a6,a7,a8,a9,a10,a11,_⟩:=ha
  refine⟨?_,by rw [a1];decide⟩
  rw [qDF,if_neg (by rw [a1];decide),if_pos a1,qAl hg a2]
  show(qCU ws (q+1+1)).then _=_
  rw [qCs hg b0 a3]
  show(qAp ws [tLB,qGg,tRB,tEq] (q+1+1+1)).then _=_
  rw [qAp,qAl hg a4]
  show((qAp ws [qGg,tRB,tEq] (q+1+1+1+1)).then _)=_
  rw [qAp,qAl hg a5]
  show((qAp ws [tRB,tEq] (q+1+1+1+1+1)).then _)=_
  rw [qAp,qAl hg a6]
  show((qAp ws [tEq] (q+1+1+1+1+1+1)).then _)=_
  rw [qBA,qAl hg a7]
  show((qCT ws (q+1+1+1+1+1+1+1)).then _)=_
  rw [qCF hg b4 a8]
  show((qBP ws tRP (q+1+1+1+1+1+1+1+1)).then _)=_
  rw [qAl hg a9]
  show((qHR ws (q+1+1+1+1+1+1+1+1+1)).then _)=_
  have hr:=qNl ⟨b5,b6⟩ a10
  rw [hr]
  show((qCT ws (q+1+1+1+1+1+1+1+1+1+1)).then _)=_
  rw [qCF hg b3 a11];rfl
 ·by_cases c5:op=5
  ·subst c5
   rw [if_neg (by omega),if_pos rfl] at hb
   simp only [Bool.and_eq_true,decide_eq_true_eq] at hb
   obtain⟨⟨⟨⟨b1,rfl⟩,rfl⟩,rfl⟩,b5⟩:=hb
   have e:qB2 5 0 0 0 r st=qBy r++([tIn,tLC]++(qFM (fun n=>[qAe n]) st++[tRC])):=rfl
   rw [e] at ha ⊢
   have hn:qAj r.name=true:=by
    rw [qBl,Bool.and_eq_true] at b1;exact b1.1
   obtain⟨a1,a2⟩:=qBQ.1 ha
   obtain⟨a3,a4⟩:=qBQ.1 a2
   obtain⟨a5,a6⟩:=qBQ.1 a4
   have t0:txt ws q=r.name:=a1.1
   refine⟨?_,by rw [t0];exact qDN hn (by decide)⟩
   rw [qDF,if_neg (by rw [t0];exact qDN hn (by decide)),if_neg (by rw [t0];exact qDN hn (by decide)),qKC hg b1 a1 (by rw [a3.1];decide)]
   show(if txt ws (q+(qBy r).length)=tIn then _ else _)=_
   rw [if_pos a3.1,qAl hg a3.2.1]
   show(qEa ws (qCT ws) F (q+(qBy r).length+1+1)).then _=_
   have hset:=qDq b5
   have hlast:q+(qBy r).length+[tIn,tLC].length+(qFM (fun n=>[qAe n]) st).length<ws.length:=qAh (by rw [a6.1];decide)
   have hlen:st.length<=(qFM (fun n=>[qAe n]) st).length:=by
    cases st with
    | nil=>simp
    | cons x r=>
     simp only [qFM,List.length_append,List.length_cons,List.length_nil]
     have:=qLg r
     omega
   have hq2:q+(qBy r).length+1+1=q+(qBy r).length+[tIn,tLC].length:=rfl
   rw [hq2,qLO (rd:=qCT ws) (f:=fun n=>[qAe n]) (ok:=fun n=>qBt n=true) (stop:=fun _=>True) (fun _ _=>trivial) (fun q a h1 h2 _=>qCF hg h1 h2.1) hset.1 (by have h0:[tIn,tLC].length=2:=rfl;omega) hset.2.1 a5 trivial (by rw [a6.1];decide)]
   show(qBP ws tRC (q+(qBy r).length+[tIn,tLC].length+(qFM (fun n=>[qAe n]) st).length)).then _=_
   rw [qAl hg a6.1]
   show Sum.inr (Cd.mk 5 0 0 0 r (qOy st) [],_)=_
   rw [hset.2.2]
   congr 2
   simp only [List.length_append,List.length_cons,List.length_nil];omega
  ·by_cases c1:op=1∨op=2∨op=3∨op=4
   ·rw [if_pos c1] at hb
    simp only [Bool.and_eq_true,decide_eq_true_eq] at hb
    obtain⟨⟨⟨⟨b1,b2⟩,rfl⟩,rfl⟩,rfl⟩:=hb
    have e:qB2 op n 0 0 r []=qBy r++[qHI op,qAe n]:=by rw [qB2,if_neg c6,if_neg c5]
    rw [e] at ha ⊢
    have hn:qAj r.name=true:=by
     rw [qBl,Bool.and_eq_true] at b1;exact b1.1
    obtain⟨a1,a2⟩:=qBQ.1 ha
    have t0:txt ws q=r.name:=a1.1
    have t1:=a2.1
    have hne:∀ s∈[tLB,tIn],¬ txt ws (q+(qBy r).length)=s:=by
     rw [t1]
     rcases c1 with rfl | rfl | rfl | rfl <;> decide
    refine⟨?_,by rw [t0];exact qDN hn (by decide)⟩
    rw [qDF,if_neg (by rw [t0];exact qDN hn (by decide)),if_neg (by rw [t0];exact qDN hn (by decide)),qKC hg b1 a1 (hne _ (by simp))]
    show(if txt ws (q+(qBy r).length)=tIn then _ else _)=_
    rw [if_neg (hne _ (by simp))]
    have hr:=qNl (ws:=ws) (by omega) t1
    rw [hr]
    show(qCT ws (q+(qBy r).length+1)).then _=_
    rw [qCF hg b2 a2.2.1]
    show Sum.inr (Cd.mk op n 0 0 r [] [],_)=_
    congr 2
    simp only [List.length_append,List.length_cons,List.length_nil];omega
   ·exfalso
    rw [if_neg c1,if_neg c5,if_neg c6] at hb
    cases hb
end
end Go.Proofs.YtohfoaplnjcihaaGreatDoor
namespace Go.Proofs.YtohfoaplnjcihaaGreatDoor
open Go Y
set_option maxRecDepth 100000
set_option maxHeartbeats 4000000
theorem qLZ {f:Nat->Cd->Option Nat}:∀ {ar:List Cd} {l k:Nat},ar.foldlM f l=some k->∀ c∈ar,∃ a b,f a c=some b
 | [],_,_,_,c,hc=>by simp at hc
 | x::ar,l,k,h,c,hc=>by
  rw [List.foldlM_cons] at h
  cases hx:f l x with
  | none=>rw [hx] at h;cases h
  | some m=>
   rw [hx] at h
   rcases List.mem_cons.1 hc with rfl | hc
   ·exact⟨l,m,hx⟩
   ·exact qLZ (ar:=ar) h c hc
theorem qGp {n rel val:Int} {r:Rf} {st:List Int} (h:qA1 n rel val r st=true):n=0/\rel=0/\val=0/\r=rf0/\st=[]:=by
 simp only [qA1,Bool.and_eq_true,decide_eq_true_eq] at h
 exact⟨h.1.1.1.1,h.1.1.1.2,h.1.1.2,h.1.2,h.2⟩
theorem qXV {α:Type} {l:List α} (h:l.length=2):∃ a b,l=[a,b]:=by
 rcases l with _ | ⟨a,_ | ⟨b,_ | ⟨c,l⟩⟩⟩
 ·cases h
 ·cases h
 ·exact⟨a,b,rfl⟩
 ·simp only [List.length_cons] at h;omega
theorem qYT {α:Type} {l:List α} (h:l.length=1):∃ a,l=[a]:=by
 rcases l with _ | ⟨a,_ | ⟨b,l⟩⟩
 ·cases h
 ·exact⟨a,rfl⟩
 ·simp only [List.length_cons] at h;omega
inductive Sh (P:Cd->Prop):Cd->Prop
 | leaf (op n rel val:Int) (r:Rf) (st:List Int) (h7:¬ op=7) (h8:¬ op=8) (h9:¬ op=9) (h:qAQ op n rel val r st=true):Sh P (.mk op n rel val r st [])
 | neg (a:Cd) (h:P a):Sh P (.mk 7 0 0 0 rf0 [] [a])
 | conj (a b:Cd) (ha:P a) (hb:P b):Sh P (.mk 8 0 0 0 rf0 [] [a,b])
 | disj (a b:Cd) (ha:P a) (hb:P b):Sh P (.mk 9 0 0 0 rf0 [] [a,b])
theorem qG1 {d:Nat} {c:Cd} {left k:Nat} (h:qAs (d+1) c left=some k):Sh (fun a=>∃ l k,qAs d a l=some k) c:=by
 obtain⟨op,n,rel,val,r,st,ar⟩:=c
 rw [qAs] at h
 split at h
 ·cases h
 ·split at h
  ·rename_i hh
   have hm:=qLZ h
   unfold qAb at hh
   split at hh
   ·rename_i h0
    simp only [Bool.and_eq_true,decide_eq_true_eq] at hh
    have:ar=[]:=List.length_eq_zero_iff.1 hh.2
    subst this
    unfold qAc at h0
    refine .leaf op n rel val r st ?_ ?_ ?_ hh.1
    ·rintro rfl;cases h0
    ·rintro rfl;cases h0
    ·rintro rfl;cases h0
   ·rename_i h0
    simp only [Bool.and_eq_true,decide_eq_true_eq] at hh
    obtain⟨hk,hp⟩:=hh
    obtain⟨rfl,rfl,rfl,rfl,rfl⟩:=qGp hp
    unfold qAc at h0 hk
    by_cases c7:op=7
    ·subst c7
     obtain⟨a,rfl⟩:=qYT hk
     exact .neg a (hm a (by simp))
    ·rw [if_neg c7] at h0 hk
     by_cases c8:op=8
     ·subst c8
      obtain⟨a,b,rfl⟩:=qXV hk
      exact .conj a b (hm a (by simp)) (hm b (by simp))
     ·by_cases c9:op=9
      ·subst c9
       obtain⟨a,b,rfl⟩:=qXV hk
       exact .disj a b (hm a (by simp)) (hm b (by simp))
      ·rw [if_neg (by omega)] at h0
       exact absurd rfl h0
  ·cases h
theorem Sh.mono {P Q:Cd->Prop} {c:Cd} (h:Sh P c) (hpq:∀ a,P a->Q a):Sh Q c:=by
 cases h with
 | leaf op n rel val r st h7 h8 h9 h=>exact .leaf op n rel val r st h7 h8 h9 h
 | neg a h=>exact .neg a (hpq a h)
 | conj a b ha hb=>exact .conj a b (hpq a ha) (hpq b hb)
 | disj a b ha hb=>exact .disj a b (hpq a ha) (hpq b hb)
theorem qCK {op n rel val:Int} {r:Rf} {st:List Int} (h7:¬ op=7) (h8:¬ op=8) (h9:¬ op=9):qAm (.mk op n rel val r st [])=qB2 op n rel val r st:=by
 rw [qAm,qWs,if_neg h9,if_neg h8,if_neg h7]
theorem qCw (a:Cd):qAm (.mk 7 0 0 0 rf0 [] [a])=qGX::qAF 3 a:=by
 rw [qAm,qFS,qFS];rfl
theorem qCM (a b:Cd):qAm (.mk 8 0 0 0 rf0 [] [a,b])=qAF 2 a++qDA::qAF 3 b:=by
 rw [qAm,qFS,qFS,qFS];rfl
theorem qCL (a b:Cd):qAm (.mk 9 0 0 0 rf0 [] [a,b])=qAF 1 a++tOr::qAF 2 b:=by
 rw [qAm,qFS,qFS,qFS];rfl
theorem qN9 {op:Int} (h7:¬ op=7) (h8:¬ op=8) (h9:¬ op=9):lvl op=4:=by rw [lvl,if_neg h9,if_neg h8,if_neg h7]
theorem qBh {k:Nat} {c:Cd} (h:¬ lvl c.op<k):qAF k c=qAm c:=if_neg h
theorem qRD {op n rel val:Int} {r:Rf} {st:List Int} (hb:qAQ op n rel val r st=true):∃ t l,qB2 op n rel val r st=t::l/\qFT t:=by
 have hr:∀ {b:Bool},(qBl r && b)=true->qAj r.name=true:=fun h=>by
  rw [Bool.and_eq_true,qBl,Bool.and_eq_true] at h;exact h.1.1
 unfold qB2
 by_cases c6:op=6
 ·rw [if_pos c6]
  exact⟨qBo,_,rfl, .inr (.inr (.inr rfl))⟩
 ·have hn:qAj r.name=true:=by
   unfold qAQ at hb
   split at hb
   ·simp only [Bool.and_assoc] at hb;exact hr hb
   ·split at hb
    ·simp only [Bool.and_assoc] at hb;exact hr hb
    ·cases hb
  rw [if_neg c6]
  by_cases c5:op=5
  ·rw [if_pos c5]
   exact⟨r.name,_,rfl, .inl hn⟩
  ·rw [if_neg c5]
   exact⟨r.name,_,rfl, .inl hn⟩
theorem qCc {k:Nat} {c:Cd} (h:∃ t r,qAm c=t::r/\qFT t):∃ t r,qAF k c=t::r/\qFT t:=by
 by_cases hl:lvl c.op<k
 ·exact⟨tLP,_,if_pos hl, .inr (.inr (.inl rfl))⟩
 ·rw [qBh hl];exact h
theorem qHd {x:qBb} (h:∃ t r,x=t::r/\qFT t):1<=x.length:=by
 obtain⟨t,r,rfl,_⟩:=h
 simp
section
variable {ws:List Wd} (hg:GoodW ws)
include hg
theorem qVi {c:Cd} (h:Sh (CB ws) c):CB ws c:=by
 cases h with
 | leaf op n rel val r st h7 h8 h9 hb=>
  have hl:=qN9 h7 h8 h9
  have hk:∀ k,k<=3->qAF k (.mk op n rel val r st [])=qB2 op n rel val r st:=fun k hk=>by
   rw [qBh (by show ¬ lvl op<k;omega),qCK h7 h8 h9]
  have hh:∃ t l,qAm (.mk op n rel val r st [])=t::l/\qFT t:=by rw [qCK h7 h8 h9];exact qRD hb
  have hn:∀ F q,4 * (ws.length - q)+2<=F->AtW ws q (qAF 3 (.mk op n rel val r st []))->qFk ws F q=.inr (.mk op n rel val r st [],q+(qAF 3 (.mk op n rel val r st [])).length):=fun F q hF ha=>by
   obtain⟨F,rfl⟩:∃ f,F=f+1:=⟨F - 1,by omega⟩
   rw [hk 3 (by omega)] at ha ⊢
   obtain⟨k1,k2⟩:=qRE hg h7 h8 h9 hb F q (by omega) ha
   rw [qFk,if_neg k2,k1]
  have hc:=qFp (by rw [hk 2 (by omega),hk 3 (by omega)]) hn
  exact⟨hn,hc,qEv (by rw [hk 1 (by omega),hk 2 (by omega)]) (qHd (qCc hh)) hc,hh⟩
 | neg a ih=>
  have hk:∀ k,k<=3->qAF k (.mk 7 0 0 0 rf0 [] [a])=qGX::qAF 3 a:=fun k hk=>by
   rw [qBh (by show ¬ lvl 7<k;have:lvl 7=3:=rfl;omega),qCw]
  have hh:∃ t l,qAm (.mk 7 0 0 0 rf0 [] [a])=t::l/\qFT t:=⟨qGX,_,qCw a, .inr (.inl rfl)⟩
  have hn:∀ F q,4 * (ws.length - q)+2<=F->AtW ws q (qAF 3 (.mk 7 0 0 0 rf0 [] [a]))->qFk ws F q=.inr (.mk 7 0 0 0 rf0 [] [a],q+(qAF 3 (.mk 7 0 0 0 rf0 [] [a])).length):=fun F q hF ha=>by
   obtain⟨F,rfl⟩:∃ f,F=f+1:=⟨F - 1,by omega⟩
   rw [hk 3 (by omega)] at ha ⊢
   have h1:=ha.1
   have hq:q<ws.length:=qAh (by rw [h1];decide)
   rw [qFk,if_pos h1,ih.neg F (q+1) (by omega) ha.2]
   show Sum.inr (Cd.mk 7 0 0 0 rf0 [] [a],_)=_
   congr 2
   simp only [List.length_cons];omega
  have hc:=qFp (by rw [hk 2 (by omega),hk 3 (by omega)]) hn
  exact⟨hn,hc,qEv (by rw [hk 1 (by omega),hk 2 (by omega)]) (qHd (qCc hh)) hc,hh⟩
 | conj a b ia ib=>
  have hk:∀ k,k<=2->qAF k (.mk 8 0 0 0 rf0 [] [a,b])=qAF 2 a++qDA::qAF 3 b:=fun k hk=>by
   rw [qBh (by show ¬ lvl 8<k;have:lvl 8=2:=rfl;omega),qCM]
  have hh:∃ t l,qAm (.mk 8 0 0 0 rf0 [] [a,b])=t::l/\qFT t:=by
   obtain⟨t,l,e,ht⟩:=qCc (k:=2) ia.head
   exact⟨t,_,by rw [qCM,e];rfl,ht⟩
  have hc:∀ F q,4 * (ws.length - q)+3<=F->AtW ws q (qAF 2 (.mk 8 0 0 0 rf0 [] [a,b]))->∃ f,4 * (ws.length - (q+(qAF 2 (.mk 8 0 0 0 rf0 [] [a,b])).length))+1<=f/\qCZ ws F q=qIh ws f (.mk 8 0 0 0 rf0 [] [a,b]) (q+(qAF 2 (.mk 8 0 0 0 rf0 [] [a,b])).length):=fun F q hF ha=>by
   rw [hk 2 (by omega)] at ha ⊢
   obtain⟨a1,a2⟩:=qBQ.1 ha
   obtain⟨f,g1,g2⟩:=ia.conj F q hF a1
   have ht:txt ws (q+(qAF 2 a).length)=qDA:=a2.1
   have hq:q+(qAF 2 a).length<ws.length:=qAh (by rw [ht];decide)
   obtain⟨f,rfl⟩:∃ g,f=g+1:=⟨f - 1,by omega⟩
   have e:q+(qAF 2 a++qDA::qAF 3 b).length=q+(qAF 2 a).length+1+(qAF 3 b).length:=by simp only [List.length_append,List.length_cons];omega
   rw [e]
   refine⟨f,by omega,?_⟩
   rw [g2,qIh,if_pos ht,ib.neg f _ (by omega) a2.2];rfl
  have ho:=qEv (by rw [hk 1 (by omega),hk 2 (by omega)]) (qHd (qCc hh)) hc
  exact⟨qID hg (show(2:Nat)<3 by decide) ho,hc,ho,hh⟩
 | disj a b ia ib=>
  have hk:qAF 1 (.mk 9 0 0 0 rf0 [] [a,b])=qAF 1 a++tOr::qAF 2 b:=by
   rw [qBh (show ¬ (1:Nat)<1 by decide),qCL]
  have hh:∃ t l,qAm (.mk 9 0 0 0 rf0 [] [a,b])=t::l/\qFT t:=by
   obtain⟨t,l,e,ht⟩:=qCc (k:=1) ia.head
   exact⟨t,_,by rw [qCL,e];rfl,ht⟩
  have ho:∀ F q,4 * (ws.length - q)+4<=F->AtW ws q (qAF 1 (.mk 9 0 0 0 rf0 [] [a,b]))->¬ txt ws (q+(qAF 1 (.mk 9 0 0 0 rf0 [] [a,b])).length)=qDA->∃ f,4 * (ws.length - (q+(qAF 1 (.mk 9 0 0 0 rf0 [] [a,b])).length))+1<=f/\qCa ws F q=orR ws f (.mk 9 0 0 0 rf0 [] [a,b]) (q+(qAF 1 (.mk 9 0 0 0 rf0 [] [a,b])).length):=fun F q hF ha hna=>by
   rw [hk] at ha hna ⊢
   obtain⟨a1,a2⟩:=qBQ.1 ha
   have ht:txt ws (q+(qAF 1 a).length)=tOr:=a2.1
   obtain⟨f,g1,g2⟩:=ia.cond F q hF a1 (by rw [ht];decide)
   have hq:q+(qAF 1 a).length<ws.length:=qAh (by rw [ht];decide)
   obtain⟨f,rfl⟩:∃ g,f=g+1:=⟨f - 1,by omega⟩
   have e:q+(qAF 1 a++tOr::qAF 2 b).length=q+(qAF 1 a).length+1+(qAF 2 b).length:=by simp only [List.length_append,List.length_cons];omega
   rw [e] at hna ⊢
   obtain⟨f2,k1,k2⟩:=ib.conj f (q+(qAF 1 a).length+1) (by omega) a2.2
   have hp:=qHd (qCc (k:=2) ib.head)
   refine⟨f,by omega,?_⟩
   rw [g2,orR,if_pos ht,k2,qOg (by omega) hna];rfl
  have hn:=qID (c:=.mk 9 0 0 0 rf0 [] [a,b]) hg (show(1:Nat)<3 by decide) ho
  exact⟨hn,qFp (show inT 2 (9,qAm (.mk 9 0 0 0 rf0 [] [a,b]))=inT 3 (9,qAm (.mk 9 0 0 0 rf0 [] [a,b])) from rfl) hn,ho,hh⟩
theorem qM6:∀ (d:Nat) (c:Cd) (left k:Nat),qAs d c left=some k->CB ws c
 | 0,_,_,_,h=>by cases h
 | d+1,c,left,k,h=>qVi hg ((qG1 h).mono fun a ⟨l,k,h⟩=>qM6 d a l k h)
theorem qRq {d:Nat} {c:Cd} {left k:Nat} (h:qAs d c left=some k) (F q:Nat) (hF:4 * (ws.length - q)+4<=F) (ha:AtW ws q (qAm c)) (h1:¬ txt ws (q+(qAm c).length)=qDA) (h2:¬ txt ws (q+(qAm c).length)=tOr):qCa ws F q=.inr (c,q+(qAm c).length):=by
 have e:qAF 1 c=qAm c:=by
  refine qBh ?_
  unfold lvl
  split
  ·decide
  ·split
   ·decide
   ·split <;> decide
 obtain⟨f,k1,k2⟩:=(qM6 hg d c left k h).cond F q hF (by rw [e];exact ha) (by rw [e];exact h1)
 rw [e] at k1 k2
 rw [k2,qQp (by omega) h2]
end
end Go.Proofs.YtohfoaplnjcihaaGreatDoor
namespace Go.Proofs.YtohfoaplnjcihaaGreatDoor
open Go Y
set_option maxRecDepth 100000
set_option maxHeartbeats 4000000
theorem qS0 {c:Cd} (h:qEZ c=true):c=cd0:=by
 obtain⟨op,n,rel,val,r,st,ar⟩:=c
 simp only [qEZ,Bool.and_eq_true,decide_eq_true_eq] at h
 obtain⟨⟨rfl,h2⟩,h3⟩:=h
 obtain⟨rfl,rfl,rfl,rfl,rfl⟩:=qGp h2
 have:ar=[]:=List.length_eq_zero_iff.1 h3
 subst this
 rfl
theorem qE8 {l:List Int} (h:qCX l=true):l ≠ []/\l.length<=8/\∀ n∈l,qGW n=true:=by
 simp only [qCX,Bool.and_eq_true,decide_eq_true_eq,List.all_eq_true] at h
 exact⟨fun e=>by rw [e] at h;exact absurd h.1.1 (by decide),h.1.2,h.2⟩
section
variable {ws:List Wd} (hg:GoodW ws)
include hg
theorem qQu {q:Nat} {s:List UInt8} (hs:s∈keysL++marksL) (hn:s ≠ []) (hm:s ≠ qAn) (h:txt ws q=s):¬ (txt ws q=qAn∨knd ws q=3):=by
 rintro (e | e)
 ·rw [h] at e;exact hm e
 ·exact(qVC hg hs h hn).1 e
theorem qJl {F:Nat} (hF8:8<=F):∀ (l:List Cs) (f:Nat) (acc:List Cs) (q:Nat),l ≠ []->l.length<=f->qBj l=true->4 * (ws.length - q)+4<=F->AtW ws q (qBf l++[tRC])->qCV ws F f acc q=.inr (acc++l,q+(qBf l).length+1)
 | [],_,_,_,h,_,_,_,_=>absurd rfl h
 | [⟨c,ns⟩],f,acc,q,_,hf,hv,hF,ha=>by
  obtain⟨f,rfl⟩:∃ g,f=g+1:=⟨f - 1,by simp only [List.length_singleton] at hf;omega⟩
  simp only [qBj,Bool.and_eq_true] at hv
  obtain⟨n1,n2,n3⟩:=qE8 hv.1
  have hc:=qS0 hv.2
  subst hc
  have e:qBf [⟨cd0,ns⟩]=qCQ::qAu::qBr ns:=rfl
  rw [e] at ha ⊢
  obtain⟨a1,a2⟩:=qBQ.1 ha
  have a4:=a1.2.2
  have hend:txt ws (q+1+1+(qBr ns).length)=tRC:=by
   have:=a2.1
   rw [show q+(qCQ::qAu::qBr ns).length=q+1+1+(qBr ns).length by simp only [List.length_cons];omega] at this
   exact this
  rw [qCV,if_pos a1.1,qFb,qAl hg a1.2.1]
  show(qDL ws F (q+1+1)).then _=_
  rw [qLF hg (by omega) n1 n3 a4 (qQu hg (by decide) (by decide) (by decide) hend)]
  show(qBP ws tRC (q+1+1+(qBr ns).length)).then _=_
  rw [qAl hg hend]
  show Sum.inr (acc++[(⟨cd0,ns⟩:Cs)],_)=_
  congr 2
  simp only [List.length_cons];omega
 | ⟨c,ns⟩::d::r,f,acc,q,_,hf,hv,hF,ha=>by
  obtain⟨f,rfl⟩:∃ g,f=g+1:=⟨f - 1,by simp only [List.length_cons] at hf;omega⟩
  simp only [qBj,Bool.and_eq_true] at hv
  obtain⟨⟨hn,hc⟩,hr⟩:=hv
  obtain⟨n1,n2,n3⟩:=qE8 hn
  obtain⟨k,hk⟩:=Option.isSome_iff_exists.1 hc
  have e:qBf (⟨c,ns⟩::d::r)=qAm c++(qAu::(qBr ns++(qAZ::qBf (d::r)))):=rfl
  rw [e] at ha ⊢
  rw [List.append_assoc,List.cons_append,List.append_assoc,List.cons_append] at ha
  obtain⟨a1,a2⟩:=qBQ.1 ha
  obtain⟨a3,a4⟩:=qBQ.1 a2.2
  have t1:txt ws (q+(qAm c).length)=qAu:=a2.1
  have t2:txt ws (q+(qAm c).length+1+(qBr ns).length)=qAZ:=a4.1
  obtain⟨t,l,eh,ht⟩:=(qM6 hg 8 c 30 k hk).head
  have h0:txt ws q=t:=by rw [eh] at a1;exact a1.1
  rw [qCV,if_neg (by rw [h0];exact head_ne ht (by decide) (by decide) (by decide) (by decide)),qRq hg hk F q hF a1 (by rw [t1];decide) (by rw [t1];decide)]
  show(qBP ws qAu (q+(qAm c).length)).then _=_
  rw [qAl hg t1]
  show(qDL ws F (q+(qAm c).length+1)).then _=_
  rw [qLF hg (by omega) n1 n3 a3 (qQu hg (by decide) (by decide) (by decide) t2)]
  show(qBP ws qAZ (q+(qAm c).length+1+(qBr ns).length)).then _=_
  rw [qAl hg t2]
  show qCV ws F f (acc++[⟨c,ns⟩]) (q+(qAm c).length+1+(qBr ns).length+1)=_
  rw [qJl hF8 (d::r) f _ _ (by simp) (by simp only [List.length_cons] at hf ⊢;omega) hr (by omega) a4.2,List.append_assoc]
  congr 2
  simp only [List.length_cons,List.length_append];omega
theorem qK4 {F q:Nat} {l:List Cs} (hF8:12<=F) (hv:qBM l=true) (hF:4 * (ws.length - q)+4<=F) (ha:AtW ws q (qBL l)):qEi ws F q=.inr (l,q+(qBL l).length):=by
 simp only [qBM,Bool.and_eq_true,decide_eq_true_eq] at hv
 obtain⟨⟨v1,v2⟩,v3⟩:=hv
 rw [qEi,qAl hg ha.1]
 show qCV ws F F [] (q+1)=_
 rw [qJl hg (by omega) l F [] (q+1) (fun e=>by rw [e] at v1;exact absurd v1 (by decide)) (by omega) v3 (by omega) ha.2,List.nil_append]
 congr 2
 simp only [qBL,List.length_cons,List.length_append,List.length_nil];omega
theorem qHx {F q:Nat} {key:List UInt8} {l:List Rf} (hF:l.length<=F) (hv:∀ r∈l,qBl r=true) (ha:AtW ws q (qAT key l)) (h1:¬ txt ws (q+(qAT key l).length)=tLB) (h2:¬ txt ws (q+(qAT key l).length)=qAi) (h3:¬ txt ws (q+(qAT key l).length)=key):qDm ws F key q=.inr (l,q+(qAT key l).length):=by
 by_cases c:l=[]
 ·subst c
  have h3:¬ txt ws q=key:=h3
  rw [qDm,if_neg h3];rfl
 ·have e:qAT key l=key::qFM qBy l:=if_neg c
  rw [e] at ha h1 h2 ⊢
  have e2:q+(key::qFM qBy l).length=q+1+(qFM qBy l).length:=by simp only [List.length_cons];omega
  rw [e2] at h1 h2 ⊢
  rw [qDm,if_pos ha.1]
  exact qLO (rd:=qHz ws) (f:=qBy) (ok:=fun r=>qBl r=true) (stop:=fun q=>¬ txt ws q=tLB) (fun q h=>by rw [h];decide) (fun q a b1 b2 b3=>qKC hg b1 b2 b3) c hF hv ha.2 h1 h2
theorem qRk {F q:Nat} {d:De} (hF8:12<=F) (hv:qBa d=true) (hF:4 * (ws.length - q)+4<=F) (ha:AtW ws q (declT d)):qB3 ws F q=.inr (d,q+(qEb d).length):=by
 obtain⟨k,n,nm,pl,rs,cs⟩:=d
 simp only [qBa,Bool.and_eq_true,decide_eq_true_eq,List.all_eq_true] at hv
 obtain⟨⟨⟨v1,v2⟩,v3⟩,v4⟩:=hv
 obtain⟨a1,a2⟩:=qBQ.1 ha
 have hend:txt ws (q+(qEb ⟨k,n,nm,pl,rs,cs⟩).length)=qAZ:=a2.1
 unfold qAt at v4
 simp only [] at v4
 by_cases c1:k=1
 ·subst c1
  simp only [if_true,Bool.and_eq_true,decide_eq_true_eq] at v4
  obtain⟨⟨⟨rfl,rfl⟩,v5⟩,v6⟩:=v4
  have:=List.length_eq_zero_iff.1 v5
  have:=List.length_eq_zero_iff.1 v6
  subst rs cs
  have a1:AtW ws q [qCP,qAe n]:=a1
  rw [qB3,if_pos a1.1,qFQ,qCF hg v1 a1.2.1];rfl
 rw [if_neg c1] at v4
 by_cases c2:k=2
 ·subst c2
  simp only [if_true,Bool.and_eq_true,decide_eq_true_eq] at v4
  obtain⟨⟨⟨v0,rfl⟩,v5⟩,v6⟩:=v4
  have:=List.length_eq_zero_iff.1 v5
  have:=List.length_eq_zero_iff.1 v6
  subst rs cs
  have a1:AtW ws q [qCO,nm,tEq,qAe n]:=a1
  rw [qB3,if_neg (by rw [a1.1];decide),if_pos a1.1,qFO,qCs hg v0 a1.2.1]
  show(qBP ws tEq (q+1+1)).then _=_
  rw [qAl hg a1.2.2.1]
  show(qCT ws (q+1+1+1)).then _=_
  rw [qCF hg v1 a1.2.2.2.1];rfl
 rw [if_neg c2] at v4
 by_cases c3:k=3
 ·subst c3
  simp only [if_true,Bool.and_eq_true,Bool.or_eq_true,decide_eq_true_eq] at v4
  obtain⟨⟨v0,v5⟩,v6⟩:=v4
  have e:qEb ⟨3,n,nm,pl,rs,cs⟩=[qAx,nm]++((if pl=[] then [] else [tLB,pl,tRB])++([qAu,qAe n]++(qAT qAg rs++(tEq::qBL cs)))):=rfl
  rw [e] at a1 ⊢
  obtain⟨b1,b2⟩:=qBQ.1 a1
  obtain⟨b3,b4⟩:=qBQ.1 b2
  have hT:∀ p,q<=p->AtW ws p ([qAu,qAe n]++(qAT qAg rs++(tEq::qBL cs)))->qBs ws F nm pl p=.inr (⟨3,n,nm,pl,rs,cs⟩,p+([qAu,qAe n]++(qAT qAg rs++(tEq::qBL cs))).length):=fun p hp b4=>by
   obtain⟨b5,b6⟩:=qBQ.1 b4
   obtain⟨b7,b8⟩:=qBQ.1 b6
   have t1:txt ws (p+1+1+(qAT qAg rs).length)=tEq:=b8.1
   rw [qBs,qAl hg b5.1]
   show(qCT ws (p+1)).then _=_
   rw [qCF hg v1 b5.2.1]
   show(qDm ws F qAg (p+1+1)).then _=_
   rw [qHx hg (q:=p+1+1) (by omega) v3 b7 (by rw [t1];decide) (by rw [t1];decide) (by rw [t1];decide)]
   show(qBP ws tEq (p+1+1+(qAT qAg rs).length)).then _=_
   rw [qAl hg t1]
   show(qEi ws F (p+1+1+(qAT qAg rs).length+1)).then _=_
   rw [qK4 hg (q:=p+1+1+(qAT qAg rs).length+1) hF8 v6 (by omega) b8.2]
   show Sum.inr ((⟨3,n,nm,pl,rs,cs⟩:De),_)=_
   congr 2
   simp only [List.length_append,List.length_cons,List.length_nil];omega
  rw [qB3,if_neg (by rw [b1.1];decide),if_neg (by rw [b1.1];decide),if_pos b1.1,qIn,qCs hg v0 b1.2.1]
  show(if txt ws (q+1+1)=tLB then _ else _)=_
  by_cases cp:pl=[]
  ·subst cp
   have b4:AtW ws (q+1+1) ([qAu,qAe n]++(qAT qAg rs++(tEq::qBL cs))):=b4
   rw [if_neg (by rw [b4.1];decide),hT (q+1+1) (by omega) b4]
   congr 2
   simp only [if_true,List.length_append,List.length_cons,List.length_nil];omega
  ·rw [if_neg cp] at b3 b4 ⊢
   have b3:AtW ws (q+1+1) [tLB,pl,tRB]:=b3
   have b4:AtW ws (q+1+1+1+1+1) ([qAu,qAe n]++(qAT qAg rs++(tEq::qBL cs))):=b4
   have hpl:qAj pl=true:=by
    rcases v5 with h | h
    ·exact absurd h cp
    ·exact h
   rw [if_pos b3.1,qCs hg hpl b3.2.1]
   show(qBP ws tRB (q+1+1+1+1)).then _=_
   rw [qAl hg b3.2.2.1]
   show qBs ws F nm pl (q+1+1+1+1+1)=_
   rw [hT (q+1+1+1+1+1) (by omega) b4]
   congr 2
   simp only [List.length_append,List.length_cons,List.length_nil];omega
 rw [if_neg c3] at v4
 by_cases c4:k=4
 ·subst c4
  simp only [if_true,Bool.and_eq_true,decide_eq_true_eq] at v4
  obtain⟨⟨v0,rfl⟩,v6⟩:=v4
  have:=List.length_eq_zero_iff.1 v6
  subst cs
  have e:qEb ⟨4,n,nm,[],rs,[]⟩=[qBS,nm,qAu,qAe n]++qAT qBd rs:=rfl
  rw [e] at a1 hend ⊢
  obtain⟨b1,b2⟩:=qBQ.1 a1
  have b2:AtW ws (q+1+1+1+1) (qAT qBd rs):=b2
  have t1:txt ws (q+1+1+1+1+(qAT qBd rs).length)=qAZ:=by
   rw [<- hend];congr 1
   simp only [List.length_append,List.length_cons,List.length_nil];omega
  rw [qB3,if_neg (by rw [b1.1];decide),if_neg (by rw [b1.1];decide),if_neg (by rw [b1.1];decide),if_pos b1.1,qDp,qCs hg v0 b1.2.1]
  show(qBP ws qAu (q+1+1)).then _=_
  rw [qAl hg b1.2.2.1]
  show(qCT ws (q+1+1+1)).then _=_
  rw [qCF hg v1 b1.2.2.2.1]
  show(qDm ws F qBd (q+1+1+1+1)).then _=_
  rw [qHx hg (by omega) v3 b2 (by rw [t1];decide) (by rw [t1];decide) (by rw [t1];decide)]
  show Sum.inr ((⟨4,n,nm,[],rs,[]⟩:De),_)=_
  congr 2
  simp only [List.length_append,List.length_cons,List.length_nil];omega
 rw [if_neg c4] at v4
 by_cases c5:k=5
 ·subst c5
  simp only [if_true,Bool.and_eq_true,decide_eq_true_eq] at v4
  obtain⟨⟨⟨rfl,rfl⟩,rfl⟩,v6⟩:=v4
  have e:qEb ⟨5,0,[],[],rs,cs⟩=qB4::(qAT qAg rs++(tEq::qBL cs)):=rfl
  rw [e] at a1 ⊢
  obtain⟨b1,b2⟩:=a1
  obtain⟨b7,b8⟩:=qBQ.1 b2
  have t1:txt ws (q+1+(qAT qAg rs).length)=tEq:=b8.1
  rw [qB3,if_neg (by rw [b1];decide),if_neg (by rw [b1];decide),if_neg (by rw [b1];decide),if_neg (by rw [b1];decide),if_pos b1,qIr]
  rw [qHx hg (by omega) v3 b7 (by rw [t1];decide) (by rw [t1];decide) (by rw [t1];decide)]
  show(qBP ws tEq (q+1+(qAT qAg rs).length)).then _=_
  rw [qAl hg t1]
  show(qEi ws F (q+1+(qAT qAg rs).length+1)).then _=_
  rw [qK4 hg hF8 v6 (by omega) b8.2]
  show Sum.inr ((⟨5,0,[],[],rs,cs⟩:De),_)=_
  congr 2
  simp only [List.length_append,List.length_cons];omega
 ·rw [if_neg c5] at v4
  cases v4
omit hg in
theorem qTK {d:De} (hv:qBa d=true):1<=(qEb d).length/\(∃ t r,qEb d=t::r/\t ≠ []):=by
 simp only [qBa,Bool.and_eq_true] at hv
 have v4:=hv.2
 unfold qAt at v4
 have key:∃ t r,qEb d=t::r/\t ≠ []:=by
  unfold qEb
  split
  ·exact⟨_,_,rfl,by decide⟩
  ·split
   ·exact⟨_,_,rfl,by decide⟩
   ·split
    ·exact⟨_,_,rfl,by decide⟩
    ·split
     ·exact⟨_,_,rfl,by decide⟩
     ·split
      ·exact⟨_,_,rfl,by decide⟩
      ·rename_i c1 c2 c3 c4 c5
       rw [if_neg c1,if_neg c2,if_neg c3,if_neg c4,if_neg c5] at v4
       cases v4
 refine⟨?_,key⟩
 obtain⟨t,r,e,_⟩:=key
 rw [e];simp
theorem qLC {F:Nat} (hF8:12<=F) (hF:4 * ws.length+4<=F):∀ (ds:List De) (f:Nat) (acc:List De) (q:Nat),ds.length<f->(∀ d∈ds,qBa d=true)->AtW ws q (ds.flatMap declT)->ws.length=q+(ds.flatMap declT).length->qCq ws F f acc q=.inr (acc++ds,ws.length)
 | ds,0,_,_,h,_,_,_=>absurd h (by omega)
 | [],f+1,acc,q,_,_,_,he=>by
  have he:ws.length=q:=he
  rw [qCq,if_neg (by omega),List.append_nil,he]
 | d::ds,f+1,acc,q,hf,hv,ha,he=>by
  rw [List.flatMap_cons] at ha he
  obtain⟨a1,a2⟩:=qBQ.1 ha
  have hd:=hv d (List.mem_cons_self ..)
  have hp:=(qTK hd).1
  rw [List.length_append] at he
  have e2:(declT d).length=(qEb d).length+1:=by rw [declT,List.length_append];rfl
  have t1:txt ws (q+(qEb d).length)=qAZ:=(qBQ.1 a1).2.1
  rw [qCq,if_pos (by omega),qRk hg hF8 hd (by omega) a1]
  show(qBP ws qAZ (q+(qEb d).length)).then _=_
  rw [qAl hg t1]
  show qCq ws F f (acc++[d]) (q+(qEb d).length+1)=_
  rw [e2,<- Nat.add_assoc] at a2
  rw [qLC hF8 hF ds f (acc++[d]) (q+(qEb d).length+1) (by simp only [List.length_cons] at hf;omega) (fun x hx=>hv x (List.mem_cons_of_mem _ hx)) a2 (by omega),List.append_assoc];rfl
end
end Go.Proofs.YtohfoaplnjcihaaGreatDoor
namespace Go.Proofs.YtohfoaplnjcihaaGreatDoor
open Go Y
set_option maxRecDepth 100000
set_option maxHeartbeats 4000000
abbrev Pcs:=List (List UInt8 × List UInt8)
def qEl (l:Pcs):List UInt8:=l.flatMap fun x=>x.1++x.2
structure GapOK (g:List UInt8):Prop where
 sep:∃ c r,g=c::r/\qMo c
 skip:∀ r,qF6 r=true->qSD g r
def qEQ (t:List UInt8):Prop:=∃ k,qAo k t=true
def qRI (t:List UInt8):Int:=(qBO t).1
def wordsAt:Nat × Nat->List UInt8->Pcs->List Wd
 | _,_,[]=>[]
 | p,g0,(w,g)::r=>⟨qRI w,w,(qIi p g0).1,(qIi p g0).2⟩::wordsAt ((qIi p g0).1,(qIi p g0).2+w.length) g r
theorem qEd:∀ (p:Nat × Nat) (g0:List UInt8) (l:Pcs),(wordsAt p g0 l).map Wd.text=l.map Prod.fst
 | _,_,[]=>rfl
 | p,g0,(w,g)::r=>by rw [wordsAt,List.map_cons,qEd];rfl
theorem qL4 (p:Nat × Nat) (g0:List UInt8) (l:Pcs):(wordsAt p g0 l).length=l.length:=by
 rw [<- List.length_map (f:=Wd.text),qEd,List.length_map]
theorem qIL {t:List UInt8} (h:qEQ t):qAo (qRI t) t=true:=by
 obtain⟨k,h⟩:=h
 have:=(qK5 h).1
 rw [qRI,this];exact h
def qHT:List UInt8->Pcs->List UInt8
 | g,[]=>g
 | _,x::r=>qHT x.2 r
theorem qOG:∀ {g:List UInt8} {l:Pcs},(g=[]∨GapOK g)->(∀ x∈l,GapOK x.2)->qHT g l=[]∨GapOK (qHT g l)
 | _,[],h,_=>h
 | _,x::r,_,hl=>by
  show qHT x.2 r=[]∨GapOK (qHT x.2 r)
  exact qOG (.inr (hl x (List.mem_cons_self ..))) fun y hy=>hl y (List.mem_cons_of_mem _ hy)
theorem qRX {g r:List UInt8} (h:GapOK g):Fol [] (g++r):=by
 obtain⟨c,t,rfl,hc⟩:=h.sep
 exact Fol.bl [] c (t++r) hc
theorem qNa {g r:List UInt8} (h:g=[]∨GapOK g) (hr:qF6 r=true):qSD g r:=by
 rcases h with rfl | h
 ·exact fun f _=>qKy hr f
 ·exact h.skip r hr
theorem qST {t g r:List UInt8} (ht:qEQ t) (h:GapOK g):qBO (t++(g++r))=(qRI t,t)/\qF6 (t++(g++r))=true:=by
 have hk:=qIL ht
 obtain⟨k1,k2⟩:=qK5 hk
 have hne:t ≠ []:=by
  have:=(qDr hk).1
  intro e;subst e;simp at this
 refine⟨qUz hk (by rw [List.append_nil];exact k1) (qRX h),qSV hne (by rw [List.append_nil];exact k2) (qRX h)⟩
theorem qT8:∀ (l:Pcs) (p:Nat × Nat) (g0 more:List UInt8),(g0=[]∨GapOK g0)->(∀ x∈l,qEQ x.1/\GapOK x.2)->∃ T,g0++(qEl l++more)=T++(qHT g0 l++more)/\Lay p T (wordsAt p g0 l) (qHT g0 l++more)
 | [],p,g0,more,_,_=>⟨[],rfl,Lay.nil p _⟩
 | (w,g)::r,p,g0,more,h0,hl=>by
  obtain⟨hw,hgp⟩:=hl (w,g) (List.mem_cons_self ..)
  obtain⟨T,e,hL⟩:=qT8 r ((qIi p g0).1,(qIi p g0).2+w.length) g more (.inr hgp) fun x hx=>hl x (List.mem_cons_of_mem _ hx)
  have e2:qEl ((w,g)::r)=w++(g++qEl r):=by rw [qEl,List.flatMap_cons];simp [qEl]
  refine⟨g0++(w++T),?_,?_⟩
  ·rw [e2]
   show g0++(w++(g++qEl r)++more)=g0++(w++T)++(qHT g r++more)
   rw [List.append_assoc,List.append_assoc,List.append_assoc,List.append_assoc,<- e]
  ·have hs:=qST (r:=qEl r++more) hw hgp
   rw [e] at hs
   exact Lay.cons (w:=⟨qRI w,w,(qIi p g0).1,(qIi p g0).2⟩) (qNa h0 hs.2) hs.1 (qIL hw) rfl rfl rfl hL
theorem qO2 {l:Pcs} {g0:List UInt8} (h0:g0=[]∨GapOK g0) (hl:∀ x∈l,qEQ x.1/\GapOK x.2) (hn:l.length<=1500):qFf (g0++qEl l)=.ok (wordsAt (1,1) g0 l):=by
 obtain⟨T,e,hL⟩:=qT8 l (1,1) g0 [] h0 hl
 rw [List.append_nil,List.append_nil] at e
 rw [List.append_nil] at hL
 have hlen:=hL.len
 have hw:=qL4 (1,1) g0 l
 have:=qSm hL [] [] (T.length+(qHT g0 l).length - (wordsAt (1,1) g0 l).length+1) rfl (by simpa [hw] using hn)
 simp only [List.nil_append,List.length_nil] at this
 rw [e,qFf,List.length_append,show T.length+(qHT g0 l).length+1=T.length+(qHT g0 l).length - (wordsAt (1,1) g0 l).length+1+(wordsAt (1,1) g0 l).length by omega,this,qEB]
 have hs:=qNa (qOG h0 fun x hx=>(hl x hx).2) (show qF6 []=true from rfl) (T++qHT g0 l).length (by simp)
 rw [List.append_nil] at hs
 rw [List.drop_left,hs]
 show qGm _ _ _ _=_
 rw [qGm,if_pos (by rw [List.length_append];exact Nat.le_refl _)]
theorem qLY {g:List UInt8} (h:g ≠ []) (hb:∀ c∈g,qVF c):GapOK g:=by
 cases g with
 | nil=>exact absurd rfl h
 | cons c r=>exact⟨⟨c,r,rfl, .inl (hb c (List.mem_cons_self ..))⟩,fun r' hr=>qFW hr hb⟩
theorem qRS:GapOK [32]:=qLY (by simp) (fun c hc=>by rw [List.mem_singleton.1 hc];exact .inl rfl)
theorem qOR:GapOK [10]:=qLY (by simp) (fun c hc=>by rw [List.mem_singleton.1 hc];exact .inr rfl)
def qDb (e:List UInt8):qBb->Pcs
 | []=>[]
 | [w]=>[(w,e)]
 | w::v::r=>(w,[32])::qDb e (v::r)
theorem qJG (e:List UInt8):∀ {x:qBb},x ≠ []->qEl (qDb e x)=spW false x++e
 | [],h=>absurd rfl h
 | [w],_=>by simp [qDb,qEl,spW]
 | w::v::r,_=>by
  have ih:=qJG e (x:=v::r) (by simp)
  rw [qDb,qEl,List.flatMap_cons]
  show w++[32]++qEl (qDb e (v::r))=_
  rw [ih]
  simp [spW]
theorem qJF (e:List UInt8):∀ x:qBb,(qDb e x).map Prod.fst=x
 | []=>rfl
 | [w]=>rfl
 | w::v::r=>by rw [qDb,List.map_cons,qJF e (v::r)]
theorem qNw {e:List UInt8} (he:GapOK e):∀ {x:qBb},(∀ t∈x,qEQ t)->∀ y∈qDb e x,qEQ y.1/\GapOK y.2
 | [],_,y,hy=>by simp [qDb] at hy
 | [w],h,y,hy=>by
  simp only [qDb,List.mem_singleton] at hy
  subst hy
  exact⟨h w (by simp),he⟩
 | w::v::r,h,y,hy=>by
  rw [qDb] at hy
  rcases List.mem_cons.1 hy with rfl | hy
  ·exact⟨h w (by simp),qRS⟩
  ·exact qNw he (fun t ht=>h t (List.mem_cons_of_mem _ ht)) y hy
def qH4 (e:List UInt8) (ds:List De):Pcs:=ds.flatMap fun d=>qDb e (declT d)
def qD8 (e:List UInt8) (ds:List De):List UInt8:=ds.flatMap fun d=>spW false (declT d)++e
theorem qKd (d:De):declT d ≠ []:=by rw [declT];simp
theorem qJD (e:List UInt8):∀ ds:List De,qEl (qH4 e ds)=qD8 e ds
 | []=>rfl
 | d::ds=>by
  have ih:=qJD e ds
  rw [qH4,List.flatMap_cons,qD8,List.flatMap_cons]
  show qEl (qDb e (declT d)++qH4 e ds)=_++qD8 e ds
  rw [<- ih,qEl,List.flatMap_append]
  show qEl (qDb e (declT d))++qEl (qH4 e ds)=_
  rw [qJG e (qKd d)]
theorem qGn (e:List UInt8):∀ ds:List De,(qH4 e ds).map Prod.fst=ds.flatMap declT
 | []=>rfl
 | d::ds=>by
  have ih:=qGn e ds
  rw [qH4,List.flatMap_cons,List.map_append,qJF,List.flatMap_cons]
  show declT d++(qH4 e ds).map Prod.fst=_
  rw [ih]
theorem qHe:∀ ds:List De,(ds.flatMap declT).length=qGa ds
 | []=>rfl
 | d::ds=>by rw [List.flatMap_cons,List.length_append,qHe ds];rfl
theorem qTU:∀ (ws:List Wd) (k:Nat),AtW ws k ((ws.drop k).map Wd.text):=by
 intro ws k
 obtain⟨n,hn⟩:∃ n,n=ws.length - k:=⟨_,rfl⟩
 induction n generalizing k with
 | zero=>rw [List.drop_eq_nil_of_le (by omega)];exact trivial
 | succ n ih=>
  rw [qEu wd0 (show k<ws.length by omega),List.map_cons]
  exact⟨rfl,ih (k+1) (by omega)⟩
theorem qVk {ws:List Wd} {x:qBb} (h:ws.map Wd.text=x):AtW ws 0 x:=by
 have:=qTU ws 0
 rw [List.drop_zero,h] at this
 exact this
def qFv (x:qBb):Prop:=∀ t∈x,qEQ t
theorem qA6:qFv []:=fun t h=>by simp at h
theorem qAI {t:List UInt8} {x:qBb} (h:qEQ t) (hx:qFv x):qFv (t::x):=fun u hu=>by
 rcases List.mem_cons.1 hu with rfl | hu
 ·exact h
 ·exact hx u hu
theorem qBC {x y:qBb} (hx:qFv x) (hy:qFv y):qFv (x++y):=fun u hu=>by
 rcases List.mem_append.1 hu with hu | hu
 ·exact hx u hu
 ·exact hy u hu
theorem qDV {t:List UInt8} (h:qAj t=true):qEQ t:=⟨1,h⟩
theorem qDi {n:Int} (h:qBt n=true):qEQ (qAe n):=⟨3,(qEL h).1⟩
theorem qAy:∀ t∈keysL++marksL,qEQ t:=by
 intro t ht
 rcases List.mem_append.1 ht with h | h
 ·exact⟨2,(by decide:∀ t∈keysL,qAo 2 t=true) t h⟩
 ·exact⟨4,(by decide:∀ t∈marksL,qAo 4 t=true) t h⟩
theorem qVL {x:qBb} (h:∀ t∈x,t∈keysL++marksL):qFv x:=fun t ht=>qAy t (h t ht)
theorem qEA {r:Rf} (h:qBl r=true):qFv (qBy r)/\(qBy r).length<=6:=by
 obtain⟨nm,m,pl,n⟩:=r
 rw [qBl,Bool.and_eq_true] at h
 obtain⟨hn,h⟩:=h
 simp only [] at h hn
 have k1:qEQ tLB:=qAy _ (by decide)
 have k2:qEQ tRB:=qAy _ (by decide)
 have k3:qEQ qGg:=qAy _ (by decide)
 have k4:qEQ qDj:=qAy _ (by decide)
 suffices hs:qFv (qGf ⟨nm,m,pl,n⟩)/\(qGf ⟨nm,m,pl,n⟩).length<=5 by
  exact⟨qAI (qDV hn) hs.1,by show _+1<=6;omega⟩
 unfold qGf
 simp only []
 split
 ·exact⟨qAI k1 (qAI k3 (qAI k2 qA6)),by simp⟩
 ·rename_i h3
  split
  ·rename_i h2
   rw [if_neg (by omega),if_neg (by omega),if_pos h2,Bool.and_eq_true] at h
   exact⟨qAI k1 (qAI (qDi h.2) (qAI k2 qA6)),by simp⟩
  ·split
   ·rename_i h1
    rw [if_neg (by omega),if_pos h1,Bool.and_eq_true] at h
    split
    ·exact⟨qAI k1 (qAI (qDV h.1) (qAI k4 (qAI (qDi h.2) (qAI k2 qA6)))),by simp⟩
    ·exact⟨qAI k1 (qAI (qDV h.1) (qAI k2 qA6)),by simp⟩
   ·exact⟨qA6,by simp⟩
theorem qIR {α:Type} {f:α->qBb} {b:Nat}:∀ {l:List α},(∀ a∈l,qFv (f a)/\(f a).length<=b)->qFv (l.flatMap f)/\(l.flatMap f).length<=b * l.length
 | [],_=>⟨qA6,by simp⟩
 | a::l,h=>by
  have h1:=h a (List.mem_cons_self ..)
  have h2:=qIR (f:=f) (b:=b) (l:=l) fun x hx=>h x (List.mem_cons_of_mem _ hx)
  rw [List.flatMap_cons]
  refine⟨qBC h1.1 h2.1,?_⟩
  rw [List.length_append,List.length_cons,Nat.mul_succ]
  omega
theorem qJ4 {α:Type} {f:α->qBb} {b:Nat} {l:List α} (h:∀ a∈l,qFv (f a)/\(f a).length<=b):qFv (qFM f l)/\(qFM f l).length<=(b+1) * l.length:=by
 cases l with
 | nil=>exact⟨qA6,by simp [qFM]⟩
 | cons a l=>
  have h1:=h a (List.mem_cons_self ..)
  have h2:=qIR (f:=fun x=>qAi::f x) (b:=b+1) (l:=l) fun x hx=>⟨qAI (qAy _ (by decide)) (h x (List.mem_cons_of_mem _ hx)).1,by have:=(h x (List.mem_cons_of_mem _ hx)).2;simp only [List.length_cons];omega⟩
  rw [qFM]
  refine⟨qBC h1.1 h2.1,?_⟩
  rw [List.length_append,List.length_cons,Nat.mul_succ]
  omega
theorem qQR (k:Int):qEQ (qHI k):=by
 refine qAy _ ?_
 unfold qHI
 split
 ·decide
 ·split
  ·decide
  ·split <;> decide
theorem qLS {op n rel val:Int} {r:Rf} {st:List Int} (hb:qAQ op n rel val r st=true):qFv (qB2 op n rel val r st)/\(qB2 op n rel val r st).length<=25:=by
 unfold qAQ at hb
 unfold qB2
 by_cases c6:op=6
 ·rw [if_neg (by omega),if_neg (by omega),if_pos c6] at hb
  simp only [Bool.and_eq_true,decide_eq_true_eq] at hb
  obtain⟨⟨⟨⟨⟨⟨b1,b2⟩,b3⟩,b4⟩,b5⟩,b6⟩,b7⟩:=hb
  rw [if_pos c6]
  have hr:=qEA b1
  refine⟨qBC (qVL (by decide)) (qBC hr.1 (qAI (qAy _ (by decide)) (qAI (qDi b4) (qAI (qAy _ (by decide)) (qAI (qQR rel) (qAI (qDi b3) qA6)))))),?_⟩
  simp only [List.length_append,List.length_cons,List.length_nil];omega
 ·rw [if_neg c6]
  by_cases c5:op=5
  ·rw [if_neg (by omega),if_pos c5] at hb
   simp only [Bool.and_eq_true,decide_eq_true_eq] at hb
   obtain⟨⟨⟨⟨b1,b2⟩,b3⟩,b4⟩,b5⟩:=hb
   rw [if_pos c5]
   have hr:=qEA b1
   have hset:=qDq b5
   have hl8:st.length<=8:=by
    simp only [qHr,Bool.and_eq_true,decide_eq_true_eq] at b5
    exact b5.1.2
   have hs:=qJ4 (f:=fun n=>[qAe n]) (b:=1) (l:=st) fun a ha=>⟨qAI (qDi (hset.2.1 a ha)) qA6,by simp⟩
   refine⟨qBC hr.1 (qBC (qVL (by decide)) (qBC hs.1 (qVL (by decide)))),?_⟩
   simp only [List.length_append,List.length_cons,List.length_nil];omega
  ·rw [if_neg c5]
   by_cases c1:op=1∨op=2∨op=3∨op=4
   ·rw [if_pos c1] at hb
    simp only [Bool.and_eq_true,decide_eq_true_eq] at hb
    have hr:=qEA hb.1.1.1.1
    refine⟨qBC hr.1 (qAI (qQR op) (qAI (qDi hb.1.1.1.2) qA6)),?_⟩
    simp only [List.length_append,List.length_cons,List.length_nil];omega
   ·rw [if_neg c1,if_neg c5,if_neg c6] at hb
    cases hb
inductive ShN (P:Nat->Cd->Nat->Prop):Nat->Cd->Nat->Prop
 | leaf (op n rel val:Int) (r:Rf) (st:List Int) (l:Nat) (h7:¬ op=7) (h8:¬ op=8) (h9:¬ op=9) (h:qAQ op n rel val r st=true):ShN P (l+1) (.mk op n rel val r st []) l
 | neg (a:Cd) (l k:Nat) (h:P l a k):ShN P (l+1) (.mk 7 0 0 0 rf0 [] [a]) k
 | conj (a b:Cd) (l m k:Nat) (ha:P l a m) (hb:P m b k):ShN P (l+1) (.mk 8 0 0 0 rf0 [] [a,b]) k
 | disj (a b:Cd) (l m k:Nat) (ha:P l a m) (hb:P m b k):ShN P (l+1) (.mk 9 0 0 0 rf0 [] [a,b]) k
theorem qM4 {d:Nat} {c:Cd} {left k:Nat} (h:qAs (d+1) c left=some k):ShN (fun l a k=>qAs d a l=some k) left c k:=by
 obtain⟨op,n,rel,val,r,st,ar⟩:=c
 rw [qAs] at h
 split at h
 ·cases h
 ·rename_i hl0
  obtain⟨l,rfl⟩:∃ l,left=l+1:=⟨left - 1,by omega⟩
  rw [Nat.add_sub_cancel] at h
  split at h
  ·rename_i hh
   unfold qAb at hh
   split at hh
   ·rename_i h0
    simp only [Bool.and_eq_true,decide_eq_true_eq] at hh
    have:ar=[]:=List.length_eq_zero_iff.1 hh.2
    subst this
    unfold qAc at h0
    injection h with h
    have h:l=k:=h
    subst h
    refine .leaf op n rel val r st l ?_ ?_ ?_ hh.1
    ·rintro rfl;cases h0
    ·rintro rfl;cases h0
    ·rintro rfl;cases h0
   ·rename_i h0
    simp only [Bool.and_eq_true,decide_eq_true_eq] at hh
    obtain⟨hk,hp⟩:=hh
    obtain⟨rfl,rfl,rfl,rfl,rfl⟩:=qGp hp
    have two:∀ {a b:Cd},[a,b].foldlM (fun l c=>qAs d c l) l=some k->∃ m,qAs d a l=some m/\qAs d b m=some k:=fun {a b} h=>by
     rw [List.foldlM_cons] at h
     cases h1:qAs d a l with
     | none=>rw [h1] at h;cases h
     | some m=>
      rw [h1] at h
      have h:[b].foldlM (fun l c=>qAs d c l) m=some k:=h
      rw [List.foldlM_cons] at h
      cases h2:qAs d b m with
      | none=>rw [h2] at h;cases h
      | some m2=>
       rw [h2] at h
       exact⟨m,rfl,by rw [h2];exact h⟩
    unfold qAc at h0 hk
    by_cases c7:op=7
    ·subst c7
     obtain⟨a,rfl⟩:=qYT hk
     rw [List.foldlM_cons] at h
     cases h1:qAs d a l with
     | none=>rw [h1] at h;cases h
     | some m=>
      rw [h1] at h
      exact .neg a l k (by rw [h1];exact h)
    ·rw [if_neg c7] at h0 hk
     by_cases c8:op=8
     ·subst c8
      obtain⟨a,b,rfl⟩:=qXV hk
      obtain⟨m,h1,h2⟩:=two h
      exact .conj a b l m k h1 h2
     ·by_cases c9:op=9
      ·subst c9
       obtain⟨a,b,rfl⟩:=qXV hk
       obtain⟨m,h1,h2⟩:=two h
       exact .disj a b l m k h1 h2
      ·rw [if_neg (by omega)] at h0
       exact absurd rfl h0
  ·cases h
theorem qDE {k:Nat} {c:Cd} (h:qFv (qAm c)):qFv (qAF k c)/\(qAF k c).length<=(qAm c).length+2:=by
 by_cases hl:lvl c.op<k
 ·rw [qAF,inT,if_pos hl]
  exact⟨qAI (qAy _ (by decide)) (qBC h (qVL (by decide))),by simp⟩
 ·rw [qBh hl]
  exact⟨h,by omega⟩
theorem qDS:∀ (d:Nat) (c:Cd) (left k:Nat),qAs d c left=some k->qFv (qAm c)/\(qAm c).length+2+28 * k<=28 * left
 | 0,_,_,_,h=>by cases h
 | d+1,c,left,k,h=>by
  cases qM4 h with
  | leaf op n rel val r st l h7 h8 h9 hb=>
   rw [qCK h7 h8 h9]
   have:=qLS hb
   exact⟨this.1,by omega⟩
  | neg a l k ha=>
   have ia:=qDS d a l k ha
   have wa:=qDE (k:=3) ia.1
   rw [qCw]
   exact⟨qAI (qAy _ (by decide)) wa.1,by simp only [List.length_cons];omega⟩
  | conj a b l m k ha hb=>
   have ia:=qDS d a l m ha
   have ib:=qDS d b m k hb
   have wa:=qDE (k:=2) ia.1
   have wb:=qDE (k:=3) ib.1
   rw [qCM]
   exact⟨qBC wa.1 (qAI (qAy _ (by decide)) wb.1),by simp only [List.length_append,List.length_cons];omega⟩
  | disj a b l m k ha hb=>
   have ia:=qDS d a l m ha
   have ib:=qDS d b m k hb
   have wa:=qDE (k:=1) ia.1
   have wb:=qDE (k:=2) ib.1
   rw [qCL]
   exact⟨qBC wa.1 (qAI (qAy _ (by decide)) wb.1),by simp only [List.length_append,List.length_cons];omega⟩
theorem qS6 {n:Int} (h:qGW n=true):qFv (qHc n)/\(qHc n).length<=2:=by
 simp only [qGW,Bool.and_eq_true,decide_eq_true_eq] at h
 unfold qHc
 split
 ·exact⟨qAI (qAy _ (by decide)) (qAI (qDi (by simp only [qBt,Bool.and_eq_true,decide_eq_true_eq];omega)) qA6),by simp⟩
 ·exact⟨qAI (qDi (by simp only [qBt,Bool.and_eq_true,decide_eq_true_eq];omega)) qA6,by simp⟩
theorem qLE {l:List Int} (h:qCX l=true):qFv (qBr l)/\(qBr l).length<=16:=by
 obtain⟨h1,h2,h3⟩:=qE8 h
 have:=qIR (f:=qHc) (b:=2) (l:=l) fun a ha=>qS6 (h3 a ha)
 exact⟨this.1,by have h4:=this.2;unfold qBr;omega⟩
theorem qJk:∀ {l:List Cs},qBj l=true->qFv (qBf l)/\(qBf l).length<=858 * l.length
 | [],_=>⟨qA6,by simp [qBf]⟩
 | [c],h=>by
  simp only [qBj,Bool.and_eq_true] at h
  have hn:=qLE h.1
  rw [qBf]
  exact⟨qAI (qAy _ (by decide)) (qAI (qAy _ (by decide)) hn.1),by simp only [List.length_cons,List.length_nil];omega⟩
 | c::d::r,h=>by
  simp only [qBj,Bool.and_eq_true] at h
  obtain⟨⟨hn,hc⟩,hr⟩:=h
  have hn:=qLE hn
  obtain⟨k,hk⟩:=Option.isSome_iff_exists.1 hc
  have hc:=qDS 8 c.cond 30 k hk
  have ih:=qJk (l:=d::r) hr
  rw [qBf]
  refine⟨qBC hc.1 (qAI (qAy _ (by decide)) (qBC hn.1 (qAI (qAy _ (by decide)) ih.1))),?_⟩
  have:=ih.2
  simp only [List.length_append,List.length_cons] at this ⊢
  omega
theorem qK3 {l:List Cs} (h:qBM l=true):qFv (qBL l)/\(qBL l).length<=10300:=by
 simp only [qBM,Bool.and_eq_true,decide_eq_true_eq] at h
 obtain⟨⟨h1,h2⟩,h3⟩:=h
 have:=qJk h3
 refine⟨qAI (qAy _ (by decide)) (qBC this.1 (qVL (by decide))),?_⟩
 rw [qBL]
 simp only [List.length_append,List.length_cons,List.length_nil]
 have h4:=this.2
 omega
theorem qHw {key:List UInt8} {l:List Rf} (hk:key∈keysL++marksL) (h:∀ r∈l,qBl r=true) (hl:l.length<=8):qFv (qAT key l)/\(qAT key l).length<=60:=by
 unfold qAT
 split
 ·exact⟨qA6,by simp⟩
 ·have:=qJ4 (f:=qBy) (b:=6) (l:=l) fun a ha=>qEA (h a ha)
  exact⟨qAI (qAy _ hk) this.1,by have h2:=this.2;simp only [List.length_cons];omega⟩
theorem qDR {d:De} (hv:qBa d=true):qFv (declT d)/\(declT d).length<=10400:=by
 obtain⟨k,n,nm,pl,rs,cs⟩:=d
 simp only [qBa,Bool.and_eq_true,decide_eq_true_eq,List.all_eq_true] at hv
 obtain⟨⟨⟨v1,v2⟩,v3⟩,v4⟩:=hv
 suffices hs:qFv (qEb ⟨k,n,nm,pl,rs,cs⟩)/\(qEb ⟨k,n,nm,pl,rs,cs⟩).length<=10399 by
  exact⟨qBC hs.1 (qVL (by decide)),by rw [declT,List.length_append];simp only [List.length_cons,List.length_nil];omega⟩
 unfold qAt at v4
 unfold qEb
 simp only [] at v4 ⊢
 have hd:=qDi v1
 by_cases c1:k=1
 ·rw [if_pos c1]
  exact⟨qAI (qAy _ (by decide)) (qAI hd qA6),by simp⟩
 rw [if_neg c1] at v4 ⊢
 by_cases c2:k=2
 ·rw [if_pos c2] at v4 ⊢
  simp only [Bool.and_eq_true,decide_eq_true_eq] at v4
  exact⟨qAI (qAy _ (by decide)) (qAI (qDV v4.1.1.1) (qAI (qAy _ (by decide)) (qAI hd qA6))),by simp⟩
 rw [if_neg c2] at v4 ⊢
 by_cases c3:k=3
 ·rw [if_pos c3] at v4 ⊢
  simp only [Bool.and_eq_true,Bool.or_eq_true,decide_eq_true_eq] at v4
  obtain⟨⟨v0,v5⟩,v6⟩:=v4
  have hr:=qHw (key:=qAg) (by decide) v3 v2
  have hc:=qK3 v6
  have hp:qFv (if pl=[] then [] else [tLB,pl,tRB])/\(if pl=[] then [] else [tLB,pl,tRB]:qBb).length<=3:=by
   split
   ·exact⟨qA6,by simp⟩
   ·rename_i h
    exact⟨qAI (qAy _ (by decide)) (qAI (qDV (v5.resolve_left h)) (qVL (by decide))),by simp⟩
  refine⟨qBC (qAI (qAy _ (by decide)) (qAI (qDV v0) qA6)) (qBC hp.1 (qBC (qAI (qAy _ (by decide)) (qAI hd qA6)) (qBC hr.1 (qAI (qAy _ (by decide)) hc.1)))),?_⟩
  have h1:=hp.2
  have h2:=hr.2
  have h3:=hc.2
  simp only [List.length_append,List.length_cons,List.length_nil] at h1 ⊢
  omega
 rw [if_neg c3] at v4 ⊢
 by_cases c4:k=4
 ·rw [if_pos c4] at v4 ⊢
  simp only [Bool.and_eq_true,decide_eq_true_eq] at v4
  have hr:=qHw (key:=qBd) (by decide) v3 v2
  refine⟨qBC (qAI (qAy _ (by decide)) (qAI (qDV v4.1.1) (qAI (qAy _ (by decide)) (qAI hd qA6)))) hr.1,?_⟩
  have h2:=hr.2
  simp only [List.length_append,List.length_cons,List.length_nil];omega
 rw [if_neg c4] at v4 ⊢
 by_cases c5:k=5
 ·rw [if_pos c5] at v4 ⊢
  simp only [Bool.and_eq_true,decide_eq_true_eq] at v4
  have hr:=qHw (key:=qAg) (by decide) v3 v2
  have hc:=qK3 v4.2
  refine⟨qAI (qAy _ (by decide)) (qBC hr.1 (qAI (qAy _ (by decide)) hc.1)),?_⟩
  have h2:=hr.2
  have h3:=hc.2
  simp only [List.length_append,List.length_cons];omega
 ·rw [if_neg c5]
  exact⟨qA6,by simp⟩
theorem qJy {t:List UInt8} (h:qEQ t):1<=t.length/\t.length<=10:=by
 obtain⟨k,h⟩:=h
 exact qDr h
theorem qMC:∀ {x:qBb} (b:Bool),qFv x->(spW b x).length<=11 * x.length
 | [],_,_=>by simp [spW]
 | t::x,b,h=>by
  have h1:=qJy (h t (List.mem_cons_self ..))
  have h2:=qMC (x:=x) true fun u hu=>h u (List.mem_cons_of_mem _ hu)
  have h3:(if b=true then [32] else []:List UInt8).length<=1:=by cases b <;> simp
  rw [spW,List.length_append,List.length_append,List.length_cons]
  omega
theorem qSu {e:List UInt8} {ds:List De} (he:GapOK e) (hv:∀ d∈ds,qBa d=true):∀ x∈qH4 e ds,qEQ x.1/\GapOK x.2:=by
 intro x hx
 obtain⟨d,hd,hx⟩:=List.mem_flatMap.1 hx
 exact qNw he (qDR (hv d hd)).1 x hx
theorem qE1 {ds:List De} (h:qBH ds=true):ds.length<=30/\∀ d∈ds,qBa d=true:=by
 simp only [qBH,Bool.and_eq_true,decide_eq_true_eq,List.all_eq_true] at h
 exact h
theorem qQe (e:List UInt8) (ds:List De):(qH4 e ds).length=qGa ds:=by
 rw [<- List.length_map (f:=Prod.fst),qGn,qHe]
theorem qUK:∀ ds:List De,ds.length<=qGa ds
 | []=>Nat.zero_le _
 | d::ds=>by
  have h:=qUK ds
  have h1:qGa (d::ds)=(declT d).length+qGa ds:=rfl
  have h2:1<=(declT d).length:=List.length_pos_iff.2 (qKd d)
  rw [h1,List.length_cons];omega
theorem qCr {e:List UInt8} {ds:List De} (he:GapOK e) (hv:qBH ds=true) (hl:(qD8 e ds).length<=8000) (hn:qGa ds<=1500):qDn (qD8 e ds)=.inr ds:=by
 obtain⟨v1,v2⟩:=qE1 hv
 have hr:=qO2 (g0:=[]) (l:=qH4 e ds) (.inl rfl) (qSu he v2) (by rw [qQe];exact hn)
 rw [List.nil_append,qJD] at hr
 obtain⟨ws,hws⟩:∃ ws,ws=wordsAt (1,1) [] (qH4 e ds):=⟨_,rfl⟩
 rw [<- hws] at hr
 have hg:=qGB hr
 have ht:ws.map Wd.text=ds.flatMap declT:=by rw [hws,qEd,qGn]
 have hlen:ws.length=0+(ds.flatMap declT).length:=by rw [Nat.zero_add,<- ht,List.length_map]
 have hcnt:=qUK ds
 have hwl:ws.length=qGa ds:=by rw [hlen,Nat.zero_add,qHe]
 by_cases h0:ds=[]
 ·subst h0
  have hw:ws=[]:=hws
  subst hw
  rw [qDn,if_neg (by omega),hr]
  rfl
 have hpos:1<=ds.length:=List.length_pos_iff.2 h0
 have hp:=qLC hg (F:=qFI ws) (by unfold qFI;omega) (by unfold qFI;omega) ds (qFI ws) [] 0 (by unfold qFI;omega) v2 (qVk ht) hlen
 rw [qDn,if_neg (by omega),hr]
 simp only []
 rw [hp]
 simp only [List.nil_append]
 rw [if_pos hv]
theorem qOb (c:UInt8):((c.toNat:Int)).toNat.toUInt8=c:=by
 show(c.toNat).toUInt8=c
 exact UInt8.ofNat_toNat
theorem qH2 {g:FuncId} {args:List PV} {x:PV} (hx:Res [] 5 (.p x) x) (h:∀ (Γ:Gm) (w:World) (args':List Value),VRL Γ (args.map .p) args'->∃ v',(callFunc g ⟨args'⟩).run cx.P w=.ok (.value v') w/\VP Γ.fz x v'):Pure cx g args (·=.ret [x]):=by
 intro Γ w args' hR hA
 obtain⟨v',h1,h2⟩:=h Γ w args' hA
 refine .inr ⟨v',w,h1, .returned (.p x),⟨0,[]⟩,Γ,?_,⟨v',rfl,h2⟩,Later.refl hR _ (Nat.le_refl _)⟩
 exact⟨.ret [x],⟨rfl,_,rfl,hx⟩,rfl⟩
theorem qGv (s:List UInt8) (c:UInt8):Pure cx 195 [.str s,u8 c] (·=.ret [i64 (Lib.indexByte s c)]):=by
 refine qH2 rfl fun Γ w args' hA=>?_
 simp only [List.map,VRL,VR,VP] at hA
 obtain⟨a,as',rfl,rfl,b,bs',rfl,rfl,rfl⟩:=hA
 refine⟨_,?_,rfl⟩
 show(callFunc 195 #[.string ⟨⟨s⟩⟩, .int .u8 c.toNat]).run Tryz.prog w=_
 rw [run_callFunc_extern Tryz.func195 (by kernel_rfl) (by kernel_rfl) (by kernel_rfl) (e:=Extern.BytealgIndexByte.indexByte) (by kernel_rfl),Lib.run_indexByteString,qOb]
 rfl
theorem qKe (s:List UInt8) (c:UInt8):Pure cx 154 [.str s,u8 c] (·=.ret [i64 (s.count c:Nat)]):=by
 refine qH2 rfl fun Γ w args' hA=>?_
 simp only [List.map,VRL,VR,VP] at hA
 obtain⟨a,as',rfl,rfl,b,bs',rfl,rfl,rfl⟩:=hA
 refine⟨_,?_,rfl⟩
 show(callFunc 154 #[.string ⟨⟨s⟩⟩, .int .u8 c.toNat]).run Tryz.prog w=_
 rw [run_callFunc_extern Tryz.func154 (by kernel_rfl) (by kernel_rfl) (by kernel_rfl) (e:=Extern.BytealgCount.count) (by kernel_rfl),Lib.run_countString,qOb]
 rfl
theorem qMs (s:List UInt8) (c:UInt8):Pure cx 177 [.str s,u8 c] (·=.ret [i64 (Lib.indexByte s c)]):=by
 refine qAC Tryz.func177 rfl rfl rfl ?_
 refine(qGv s c).eq rfl ?_
 exact qAG _ rfl rfl rfl
theorem qS7 (s:List UInt8) (c:UInt8):Pure cx 155 [.str s, .str [c]] (·=.ret [i64 (Lib.indexByte s c)]):=by
 refine qAC Tryz.func155 rfl rfl rfl ?_
 refine And.intro (fun h=>absurd (show(1:Int)=0 from h) (by decide)) (fun _=>?_)
 refine And.intro (fun h=>?_) (fun _=>?_)
 ·have h:[c]=s:=h
  subst h
  exact qAG _ rfl rfl (qE4 (by simp [Lib.indexByte]))
 ·refine And.intro (fun _=>?_) (fun h=>absurd rfl h)
  refine⟨_,⟨by omega,c,rfl,rfl⟩,?_⟩
  refine(qMs s c).eq rfl ?_
  exact qAG _ rfl rfl rfl
theorem qL8 (s:List UInt8) (c:UInt8):Pure cx 111 [.str s, .str [c]] (·=.ret [i64 (Lib.indexByte s c)]):=by
 refine qAC Tryz.func111 rfl rfl rfl ?_
 refine(qS7 s c).eq rfl ?_
 exact qAG _ rfl rfl rfl
theorem qL9 (s:List UInt8) (c:UInt8):Pure cx 110 [.str s, .str [c]] (·=.ret [i64 (s.count c:Nat)]):=by
 refine qAC Tryz.func110 rfl rfl rfl ?_
 refine And.intro (fun h=>absurd (show(1:Int)=0 from h) (by decide)) (fun _=>?_)
 refine And.intro (fun _=>?_) (fun h=>absurd rfl h)
 refine⟨_,⟨by omega,c,rfl,rfl⟩,?_⟩
 refine(qKe s c).eq rfl ?_
 exact qAG _ rfl rfl rfl
def ahead (c:UInt8):List UInt8->Nat
 | []=>0
 | b::r=>if b=c then 0 else ahead c r+1
theorem qMr {c:UInt8} {s:List UInt8}:(c∈s->Lib.indexByte s c=(ahead c s:Nat))/\(c ∉ s->Lib.indexByte s c=-1):=by
 induction s with
 | nil=>simp [Lib.indexByte]
 | cons b r ih=>
  simp only [Lib.indexByte,ahead,List.mem_cons]
  by_cases h:b=c
  ·subst h;simp
  ·have hb:(b == c)=false:=by simpa using h
   have hc:¬ c=b:=fun e=>h e.symm
   rw [hb,if_neg h]
   simp only [Bool.false_eq_true,if_false,hc,false_or]
   refine⟨fun hm=>?_,fun hm=>?_⟩
   ·rw [ih.1 hm,if_neg (by simp)];rfl
   ·rw [ih.2 hm];rfl
theorem qNG {c:UInt8} {s:List UInt8} (h:c∈s):s=s.take (ahead c s)++c::s.drop (ahead c s+1)/\c ∉ s.take (ahead c s)/\ahead c s<s.length:=by
 induction s with
 | nil=>simp at h
 | cons b r ih=>
  by_cases e:b=c
  ·subst e;simp [ahead]
  ·have hr:c∈r:=by
    rcases List.mem_cons.1 h with h | h
    ·exact absurd h.symm e
    ·exact h
   obtain⟨h1,h2,h3⟩:=ih hr
   have ea:ahead c (b::r)=ahead c r+1:=by simp [ahead,e]
   rw [ea]
   refine⟨?_,?_,by simp;omega⟩
   ·simp only [List.take_succ_cons,List.drop_succ_cons,List.cons_append]
    exact congrArg _ h1
   ·simp only [List.take_succ_cons,List.mem_cons,not_or]
    exact⟨fun e'=>e e'.symm,h2⟩
def qDu (c:UInt8) (new:List UInt8) (s:List UInt8):List UInt8:=s.flatMap fun b=>if b=c then new else [b]
theorem qHW {c:UInt8} {new s:List UInt8} (h:c ∉ s):qDu c new s=s:=by
 induction s with
 | nil=>rfl
 | cons b r ih=>
  simp only [List.mem_cons,not_or] at h
  have:=ih h.2
  unfold qDu at this ⊢
  rw [List.flatMap_cons,this,if_neg fun e=>h.1 e.symm]
  rfl
theorem qDI (c:UInt8) (new a b:List UInt8):qDu c new (a++b)=qDu c new a++qDu c new b:=by simp [qDu]
theorem qUh {c:UInt8} {new s:List UInt8} (hs:s ≠ []) (hn:new ≠ []):qDu c new s ≠ []:=by
 cases s with
 | nil=>exact absurd rfl hs
 | cons b r=>
  unfold qDu
  rw [List.flatMap_cons]
  intro e
  have:=(List.append_eq_nil_iff.1 e).1
  split at this
  ·exact hn this
  ·cases this
theorem qSh (c:UInt8) (new s:List UInt8):(qDu c new s).length<=s.length * (new.length+1):=by
 induction s with
 | nil=>simp [qDu]
 | cons b r ih=>
  unfold qDu at ih ⊢
  rw [List.flatMap_cons,List.length_append,List.length_cons,Nat.succ_mul]
  split
  ·omega
  ·rw [List.length_singleton];omega
def qVe:List UInt8:=[40,42,32,59,32,45,45,32,125,32,42,41,10]
theorem qRT:GapOK qVe:=by
 refine⟨⟨40,_,rfl, .inr rfl⟩,fun r hr=>?_⟩
 have h1:qSD [10] r:=qFW hr fun c hc=>by rw [List.mem_singleton.1 hc];exact .inr rfl
 intro f hf
 have hf:13+r.length<=f:=by rw [List.length_append] at hf;exact hf
 obtain⟨f',rfl⟩:∃ f',f=f'+12:=⟨f - 12,by omega⟩
 have h2:=h1 (f'+11) (by rw [List.length_append];show 1+r.length<=f'+11;omega)
 show shift (2+10) (qBG (f'+11) ([10]++r))=_
 rw [h2]
 rfl
theorem qWI {t:List UInt8} (h:qEQ t):(10:UInt8) ∉ t:=fun hm=>by
 obtain⟨k,h⟩:=h
 exact qI8 h 10 hm rfl
theorem qTj:∀ {x:qBb} (b:Bool),qFv x->(10:UInt8) ∉ spW b x
 | [],_,_=>by simp [spW]
 | t::x,b,h=>by
  have h1:=qWI (h t (List.mem_cons_self ..))
  have h2:=qTj (x:=x) true fun u hu=>h u (List.mem_cons_of_mem _ hu)
  rw [spW,List.mem_append,List.mem_append]
  rintro (h3 | h3 | h3)
  ·cases b <;> simp at h3
  ·exact h1 h3
  ·exact h2 h3
theorem qI9 (e:List UInt8):∀ {ds:List De},(∀ d∈ds,qBa d=true)->qDu 10 e (qBF ds)=qD8 e ds
 | [],_=>rfl
 | d::ds,h=>by
  have h1:=qTj false (qDR (h d (List.mem_cons_self ..))).1
  have h2:=qI9 e (ds:=ds) fun x hx=>h x (List.mem_cons_of_mem _ hx)
  have e1:qBF (d::ds)=(spW false (declT d)++[10])++qBF ds:=rfl
  have e2:qD8 e (d::ds)=(spW false (declT d)++e)++qD8 e ds:=rfl
  rw [e1,e2,qDI,qDI,qHW h1,h2]
  congr 2
  simp [qDu]
theorem qK6 (e:List UInt8) {ds:List De} (hv:qBH ds=true):qDu 10 e (qBF ds)=qD8 e ds:=qI9 e (qE1 hv).2
theorem qNV {a b:List De} (ha:qBH a=true) (hb:qBH b=true) (la:(qBF a).length<=8000) (lb:(qBF b).length<=8000) (ca:qGa a<=1500) (cb':qGa b<=1500):qBF a=qBF b ↔ a=b:=by
 refine⟨fun h=>?_,fun h=>by rw [h]⟩
 have h1:=qCr (e:=[10]) qOR ha la ca
 have h2:=qCr (e:=[10]) qOR hb lb cb'
 rw [show qD8 [10] a=qBF a from rfl,h,show qBF b=qD8 [10] b from rfl,h2] at h1
 injection h1 with h1
 exact h1.symm
end Go.Proofs.YtohfoaplnjcihaaGreatDoor
namespace Go.Proofs.YtohfoaplnjcihaaGreatDoor.Y
open Go
def partsOf (P:Program) (t:TypeId):Option (List (TypeId × Nat)):=
 match P.underlying t with
 | some (.struct fs)=>some (fs.toList.map fun f=>(f.type,f.offset))
 | some (.array k e)=>some ((List.range k).map fun i=>(e,i * P.cellsOf e))
 | _=>none
def qHQ (P:Program):List (TypeId × Nat)->Nat->Option Nat
 | [],o=>some o
 | f::r,o=>if f.2=o then qHQ P r (o+P.cellsOf f.1) else none
theorem qNU {P:Program}:∀ {l:List (TypeId × Nat)} {o n:Nat},qHQ P l o=some n->o<=n
 | [],o,n,h=>by simp only [qHQ,Option.some.injEq] at h;omega
 | f::r,o,n,h=>by
  simp only [qHQ] at h
  split at h
  ·have:=qNU h;omega
  ·cases h
def basic:TypeDesc->Bool
 | .bool=>true
 | .int _=>true
 | .string=>true
 | _=>false
def qV1 (P:Program):Nat->TypeId->Bool
 | 0,_=>false
 | n+1,t=>match partsOf P t with
  | some l=>decide (qHQ P l 0=some (P.cellsOf t)) && l.all fun f=>qV1 P n f.1
  | none=>match P.underlying t with
   | some (.slice e)=>decide (0<P.cellsOf e) && qV1 P n e
   | some d=>basic d
   | none=>false
def qXP (P:Program) (p:TypeId->List PV->Prop):List (TypeId × Nat)->List PV->Prop
 | [],xs=>xs=[]
 | f::r,xs=>∃ ys zs,xs=ys++zs/\ys.length=P.cellsOf f.1/\p f.1 ys/\qXP P p r zs
def TyT (P:Program):Nat->TypeId->List PV->Prop
 | 0,_,_=>False
 | m+1,t,xs=>match partsOf P t with
  | some l=>qXP P (TyT P m) l xs
  | none=>match P.underlying t with
   | some .bool=>∃ b,xs=[.bool b]
   | some (.int k)=>∃ n,xs=[.int k n]/\(Lit.int k n).wf=true
   | some .string=>∃ s,xs=[.str s]/\s.length<=maxLen
   | some (.slice e)=>match Nat.beq (P.cellsOf e) 1 with
    | true=>∃ ys,xs=[.lst ys]/\ys.length<=maxLen/\∀ y∈ys,TyT P m e [y]
    | false=>∃ yss,xs=[.lsts (P.cellsOf e) yss]/\yss.length<=maxLen/\∀ ys∈yss,TyT P m e ys
   | _=>False
section
variable {H:Type} {enc:TypeId × Value->H} {P:Program} {W:World} {sp:Nat->Bool} {held:Bool}
theorem qG3 {a:Addr} {n:Nat} {cs:List Value} (hn:0<n) (h:W.cells? 0 a n=some cs) :
  ∃ c t z,W.heap[a.block]?=some (.cells c t z)/\a.spot=none/\cs.length=n/\a.off+n<=c.toList.length/\cs=(c.toList.drop a.off).take n:=by
 unfold World.cells? at h
 rw [if_pos (Nat.zero_le _)] at h
 have hl:=mapM_some_length h
 rw [List.length_range] at hl
 have hg:∀ i,i<n->W.cell? (a.add i)=cs[i]?:=fun i hi=>mapM_some_get h i i (by simp [hi])
 have h0:=hg 0 hn
 have ha:a.add 0=a:=by simp [Addr.add]
 rw [ha,List.getElem?_eq_getElem (by omega)] at h0
 unfold World.cell? at h0
 split at h0
 ·rename_i c t z hb
  have hs:a.spot=none:=by
   cases hs:a.spot with
   | none=>rfl
   | some _=>simp [hs] at h0
  have hcell:∀ i,i<n->c[a.off+i]?=cs[i]?:=by
   intro i hi
   have:=hg i hi
   unfold World.cell? at this
   have hblk:(a.add i).block=a.block:=by unfold Addr.add;split <;> rfl
   have hsp:(a.add i).spot=none:=by unfold Addr.add;split <;> first | exact hs | rfl
   have hoff:(a.add i).off=a.off+i:=by unfold Addr.add;split <;> simp_all
   rw [hblk,hb] at this
   simp only [hsp,hoff] at this
   simpa using this
  have hlen:a.off+n<=c.toList.length:=by
   have:=hcell (n - 1) (by omega)
   rw [List.getElem?_eq_getElem (by omega)] at this
   have:=(Array.getElem?_eq_some_iff.1 this).1
   simp
   omega
  refine⟨c,t,z,hb,hs,hl,hlen,?_⟩
  refine List.ext_getElem? fun i=>?_
  by_cases hi:i<n
  ·rw [<- hcell i hi,List.getElem?_take_of_lt hi,List.getElem?_drop]
   simp
  ·rw [List.getElem?_eq_none (by omega),List.getElem?_eq_none (by simp;omega)]
 ·cases h0
def qOr (fz:Fzn) (W:World):Prop:=∀ b c t z,W.heap[b]?=some (.cells c t z)->fz b=some c.toList
def Rd (P:Program) (fz:Fzn) (m:Nat) (t:TypeId) (cs:List Value):Prop:=∃ xs,VPL fz xs cs/\(∀ u∈cs,qBJ u=true)/\TyT P m t xs
theorem qRY {fz:Fzn} {m:Nat} {cs:List Value}:∀ (l:List (TypeId × Nat)) (o:Nat),qHQ P l o=some cs.length->(∀ f∈l,Rd P fz m f.1 ((cs.drop f.2).take (P.cellsOf f.1))) ->
  ∃ xs,VPL fz xs (cs.drop o)/\(∀ u∈cs.drop o,qBJ u=true)/\qXP P (TyT P m) l xs
 | [],o,ht,_=>by
  simp only [qHQ,Option.some.injEq] at ht
  subst ht
  exact⟨[],by simp [VPL],by simp,rfl⟩
 | f::r,o,ht,hr=>by
  simp only [qHQ] at ht
  split at ht
  ·rename_i ho
   have hle:=qNU ht
   obtain⟨ys,h1,h2,h3⟩:=hr f (by simp)
   obtain⟨zs,k1,k2,k3⟩:=qRY r (o+P.cellsOf f.1) ht fun g hg=>hr g (by simp [hg])
   rw [ho] at h1 h2
   have e:cs.drop o=(cs.drop o).take (P.cellsOf f.1)++cs.drop (o+P.cellsOf f.1):=by
    rw [<- List.drop_drop,List.take_append_drop]
   refine⟨ys++zs,?_,?_,ys,zs,rfl,?_,h3,k3⟩
   ·rw [e];exact qFF h1 k1
   ·rw [e];intro u hu;rcases List.mem_append.1 hu with hu | hu
    ·exact h2 u hu
    ·exact k2 u hu
   ·rw [<- qA9 h1,List.length_take,List.length_drop];omega
  ·cases ht
theorem qJH {t:TypeId} {l:List (TypeId × Nat)} (hp:partsOf P t=some l) {n:Nat} {cs:List Value} {x:DataW H × List MemPlace} (h:DataW.trod enc P W 0 sp held n t cs=some x) :
  ∃ (xs:List (DataW H × List MemPlace)) (k:Nat),n=k+1/\x=(.agg (xs.map (·.1)),xs.flatMap (·.2))/\cs.length=P.cellsOf t/\xs.length=l.length /\
   ∀ (i:Nat) (f:TypeId × Nat),l[i]?=some f->DataW.trod enc P W 0 sp held k f.1 ((cs.drop f.2).take (P.cellsOf f.1))=xs[i]?:=by
 unfold partsOf at hp
 split at hp
 ·rename_i fs hu
  injection hp with hp
  subst hp
  obtain⟨xs,k,h1,h2,h3,h4,h5⟩:=DataW.trod_struct hu h
  refine⟨xs,k,h1,h2,h3,by simpa using h4,fun i f hf=>?_⟩
  rw [List.getElem?_map,Option.map_eq_some_iff] at hf
  obtain⟨g,hg,rfl⟩:=hf
  exact h5 i g (by simpa using hg)
 ·rename_i k' e hu
  injection hp with hp
  subst hp
  obtain⟨xs,k,h1,h2,h3,h4,h5⟩:=DataW.trod_array hu h
  refine⟨xs,k,h1,h2,h3,by simpa using h4,fun i f hf=>?_⟩
  rw [List.getElem?_map,Option.map_eq_some_iff] at hf
  obtain⟨j,hj,rfl⟩:=hf
  have hi:=(List.getElem?_eq_some_iff.1 hj)
  obtain⟨hi,hj⟩:=hi
  simp at hi hj
  subst hj
  exact h5 i hi
 ·cases hp
theorem qLa {l:List (List PV)} (h:∀ cs∈l,cs.length=1):l.flatten.length=l.length/\∀ y∈l.flatten,[y]∈l:=by
 induction l with
 | nil=>simp
 | cons x r ih=>
  have hx:=h x (by simp)
  obtain⟨y,rfl⟩:∃ y,x=[y]:=by
   match x,hx with
   | [y],_=>exact⟨y,rfl⟩
  obtain⟨h1,h2⟩:=ih fun c hc=>h c (by simp [hc])
  refine⟨by simp [h1],fun z hz=>?_⟩
  simp at hz
  rcases hz with rfl | hz
  ·simp
  ·have:=h2 z (by simpa using hz)
   simp [this]
mutual
def qIT:DataW H->Option (List PV)
 | .lit (.bool b)=>some [.bool b]
 | .lit (.int k n)=>some [.int k n]
 | .lit (.string s)=>some [.str s]
 | .agg ps=>qLc ps
 | _=>none
def qLc:List (DataW H)->Option (List PV)
 | []=>some []
 | d::r=>match qIT d,qLc r with
  | some xs,some ys=>some (xs++ys)
  | _,_=>none
end
theorem qOT {fz:Fzn} {cs:List Value} {Q:DataW H->List Value->Prop} (hQ:∀ d us xs,Q d us->qIT d=some xs->VPL fz xs us/\∀ u∈us,qBJ u=true):∀ (l:List (TypeId × Nat)) (ds:List (DataW H)) (o:Nat) (xs:List PV),qHQ P l o=some cs.length->ds.length=l.length ->
  (∀ (i:Nat) f d,l[i]?=some f->ds[i]?=some d->Q d ((cs.drop f.2).take (P.cellsOf f.1)))->qLc ds=some xs->VPL fz xs (cs.drop o)/\∀ u∈cs.drop o,qBJ u=true
 | [],ds,o,xs,ht,hl,_,hd=>by
  simp only [qHQ,Option.some.injEq] at ht
  subst ht
  obtain rfl:=List.eq_nil_of_length_eq_zero hl
  simp only [qLc,Option.some.injEq] at hd
  subst hd
  simp [VPL]
 | f::r,[],o,xs,ht,hl,_,hd=>by simp at hl
 | f::r,d::ds,o,xs,ht,hl,hr,hd=>by
  simp only [qHQ] at ht
  split at ht
  ·rename_i ho
   simp only [qLc] at hd
   split at hd
   ·rename_i ys zs e1 e2
    injection hd with hd
    subst hd
    have h1:=hQ d _ ys (hr 0 f d rfl rfl) e1
    have h2:=qOT hQ r ds (o+P.cellsOf f.1) zs ht (by simpa using hl) (fun i g e hg he=>hr (i+1) g e hg he) e2
    rw [ho] at h1
    have e:cs.drop o=(cs.drop o).take (P.cellsOf f.1)++cs.drop (o+P.cellsOf f.1):=by
     rw [<- List.drop_drop,List.take_append_drop]
    rw [e]
    refine⟨qFF h1.1 h2.1,fun u hu=>?_⟩
    rcases List.mem_append.1 hu with hu | hu
    ·exact h1.2 u hu
    ·exact h2.2 u hu
   ·cases hd
  ·cases ht
theorem qHN {fz:Fzn}:∀ (m:Nat) (t:TypeId) (n:Nat) (cs:List Value) (x:DataW H × List MemPlace) (xs:List PV),qV1 P m t=true->DataW.trod enc P W 0 sp held n t cs=some x->qIT x.1=some xs->VPL fz xs cs/\∀ u∈cs,qBJ u=true
 | 0,_,_,_,_,_,hs,_,_=>by simp [qV1] at hs
 | m+1,t,n,cs,x,xs,hs,h,hd=>by
  have ih:=qHN (fz:=fz) m
  simp only [qV1] at hs
  cases hp:partsOf P t with
  | some l=>
   simp only [hp,Bool.and_eq_true,decide_eq_true_eq,List.all_eq_true] at hs
   obtain⟨ys,k,h1,h2,h3,h4,h5⟩:=qJH hp h
   rw [h2] at hd
   simp only [qIT] at hd
   have:=qOT (fz:=fz) (P:=P) (cs:=cs) (Q:=fun d us=>∀ xs,qIT d=some xs->VPL fz xs us/\∀ u∈us,qBJ u=true) (fun d us xs hq hx=>hq xs hx) l (ys.map (·.1)) 0 xs (by rw [h3];exact hs.1) (by simpa using h4) (fun i f d hf hd'=>by
    rw [List.getElem?_map,Option.map_eq_some_iff] at hd'
    obtain⟨y,hy,rfl⟩:=hd'
    have e:=h5 i f hf
    rw [hy] at e
    intro xs hx
    exact ih _ _ _ _ xs (hs.2 _ (List.mem_of_getElem? hf)) e hx) hd
   simpa using this
  | none=>
   simp only [hp] at hs
   cases hu:P.underlying t with
   | none=>simp [hu] at hs
   | some d=>
    simp only [hu] at hs
    cases d with
    | bool=>
     obtain⟨b,rfl,rfl⟩:=DataW.trod_bool hu h
     simp only [qIT,Option.some.injEq] at hd
     subst hd
     exact⟨by simp [VPL,VP],by simp [qBJ]⟩
    | int k=>
     obtain⟨b,rfl,rfl,hw⟩:=DataW.trod_int hu h
     simp only [qIT,Option.some.injEq] at hd
     subst hd
     exact⟨by simp [VPL,VP],by simp [qBJ]⟩
    | string=>
     obtain⟨⟨⟨s⟩⟩,rfl,rfl,hw⟩:=DataW.trod_string hu h
     simp only [qIT,Option.some.injEq] at hd
     subst hd
     exact⟨by simp [VPL,VP],by simp [qBJ]⟩
    | slice e=>
     rcases DataW.trod_slice hu h with ⟨rfl,rfl⟩ | ⟨a,len,cap,elems,rest,n',rfl,rfl,rfl,_⟩
     ·simp [qIT] at hd
     ·simp [qIT] at hd
    | _=>simp [basic] at hs
end
end Go.Proofs.YtohfoaplnjcihaaGreatDoor.Y
namespace Go.Proofs.YtohfoaplnjcihaaGreatDoor.Y
open Go
theorem mapM_mono {α β:Type} {f g:α->Option β}:∀ {l:List α} {r:List β},(∀ x∈l,∀ y,f x=some y->g x=some y)->l.mapM f=some r->l.mapM g=some r
 | [],r,_,h=>by simpa using h
 | x::l,r,hfg,h=>by
  simp only [List.mapM_cons,Option.bind_eq_bind,Option.bind_eq_some_iff,Option.pure_def,Option.some.injEq] at h ⊢
  obtain⟨y,h1,ys,h2,h3⟩:=h
  exact⟨y,hfg x (by simp) y h1,ys,mapM_mono (fun z hz=>hfg z (by simp [hz])) h2,h3⟩
def Kept (W W':World):Prop:=∀ (b:Nat) (o:Obj),W.heap[b]?=some o->W'.heap[b]?=some o
section
variable {H:Type} {enc:TypeId × Value->H} {P:Program} {W W':World} {sp':Nat->Bool} {held:Bool}
theorem Kept.cell (hk:Kept W W') {a:Addr} {v:Value} (h:W.cell? a=some v):W'.cell? a=some v:=by
 unfold World.cell? at h ⊢
 split at h
 ·rename_i c t z hb
  rw [hk _ _ hb]
  exact h
 ·cases h
theorem Kept.cells (hk:Kept W W') {a:Addr} {n:Nat} {cs:List Value} (h:W.cells? 0 a n=some cs):W'.cells? 0 a n=some cs:=by
 unfold World.cells? at h ⊢
 rw [if_pos (Nat.zero_le _)] at h ⊢
 exact mapM_mono (fun _ _ _ hx=>hk.cell hx) h
def qPg (P:Program) (m:Nat) (t:TypeId) (x:PV):Prop:=match partsOf P t with
 | some _=>∃ xs,x=.agg xs/\TyT P m t xs
 | none=>TyT P m t [x]
def qOS (W:World):Fzn:=fun b=>match W.heap[b]? with
 | some (.cells c _ _)=>some c.toList
 | _=>none
theorem qKU (W:World):qOr (qOS W) W:=fun b c t z h=>by simp [qOS,h]
theorem qRV {b:Nat} {arr:List Value} (h:qOS W b=some arr):∃ c t z,W.heap[b]?=some (.cells c t z)/\arr=c.toList:=by
 unfold qOS at h
 split at h
 ·rename_i c t z hb
  injection h with h
  exact⟨c,t,z,hb,h.symm⟩
 ·cases h
end
def qWw (P:Program) (m:Nat):List (Nat × List PV)->List (String × DataW Unit)->Prop
 | [],_=>True
 | (g,cs)::r,(n,d)::r'=>P.globalNamed n=some g/\(∃ t,(P.globals[g]?).map (·.type)=some t/\qV1 P m t=true)/\qIT d=some cs/\qWw P m r r'
 | _::_,[]=>False
theorem qEr {P:Program} {m:Nat} {W:World}:∀ {gt:List (Nat × List PV)} {laid:List (String × DataW Unit)} {ps:List MemPlace},qWw P m gt laid->DataW.LaidVars P W laid ps->∀ g cs,qPO gt g=some cs->GlobV (qOS W) g cs
 | [],_,_,_,_,g,cs,h=>by simp [qPO] at h
 | (g',cs')::r,[],_,hg,_,g,cs,h=>by simp [qWw] at hg
 | (g',cs')::r,(n,d)::r',ps,hg,hl,g,cs,h=>by
  obtain⟨h1,⟨t,h2,h3⟩,h4,h5⟩:=hg
  obtain⟨g0,t0,cs0,fuel,p,q,k1,k2,k3,k4,k5,k6⟩:=hl
  rw [h1] at k1
  injection k1 with k1
  subst k1
  rw [h2] at k2
  injection k2 with k2
  subst k2
  simp only [qPO] at h
  split at h
  ·rename_i he
   have he:=Nat.eq_of_beq_eq_true he
   subst he
   injection h with h
   subst h
   obtain⟨g1,g2⟩:=qHN (fz:=qOS W) m t fuel _ _ _ h3 k4 h4
   have hb:∃ ty z,W.heap[g']?=some (.cells cs0 ty z):=by
    unfold World.var? at k3
    rw [h1] at k3
    simp only [Option.bind_some] at k3
    split at k3
    ·rename_i c ty z hb
     injection k3 with k3
     subst k3
     exact⟨ty,z,hb⟩
    ·cases k3
   obtain⟨ty,z,hb⟩:=hb
   exact⟨by simp only [VP];exact⟨g',0,cs0.toList,cs0.toList,rfl,qKU W _ _ _ _ hb,g1,[],[],by simp,rfl,g2⟩,cs0.toList,qKU W _ _ _ _ hb,qA9 g1⟩
  ·exact qEr h5 k5 g cs h
section
variable {cx:Cx}
end
end Go.Proofs.YtohfoaplnjcihaaGreatDoor.Y
namespace Go.Proofs.YtohfoaplnjcihaaGreatDoor
open Go Y
set_option maxRecDepth 100000
set_option maxHeartbeats 4000000
theorem qFU {m:Nat} {xs:List PV} (h:TyT Tryz.prog (m+1) 5 xs):∃ b:UInt8,xs=[u8 b]:=by
 have hp:partsOf Tryz.prog 5=none:=by simp [partsOf,Tryz.underlying5]
 simp only [TyT,hp,Tryz.underlying5] at h
 obtain⟨n,rfl,hw⟩:=h
 have:=bounds_u8 hw
 refine⟨UInt8.ofNat n.toNat,?_⟩
 have e:((UInt8.ofNat n.toNat).toNat:Int)=n:=by
  simp
  omega
 rw [u8,e]
theorem qLP {α:Type} {f:α->PV} {P:α->Prop} {ys:List PV} (h:∀ y∈ys,∃ a,y=f a/\P a):∃ zs:List α,ys=zs.map f/\∀ z∈zs,P z:=by
 induction ys with
 | nil=>exact⟨[],rfl,by simp⟩
 | cons y r ih=>
  obtain⟨a,rfl,ha⟩:=h y (by simp)
  obtain⟨zs,rfl,hz⟩:=ih fun z hz=>h z (by simp [hz])
  exact⟨a::zs,rfl,fun z hm=>by rcases List.mem_cons.1 hm with rfl | hm;exact ha;exact hz z hm⟩
theorem qSS {m:Nat} {xs:List PV} (h:TyT Tryz.prog (m+2) 40 xs):∃ bs:List UInt8,xs=[.lst (bs.map u8)]/\bs.length<=9223372036854775807:=by
 have hp:partsOf Tryz.prog 40=none:=by simp [partsOf,Tryz.underlying40]
 have hc:Tryz.prog.cellsOf 5=1:=by kernel_rfl
 rw [TyT] at h
 simp only [hp,Tryz.underlying40,hc] at h
 obtain⟨ys,rfl,hl,hy⟩:=h
 obtain⟨bs,rfl,_⟩:=qLP (f:=u8) (P:=fun _=>True) fun y hy'=>by
  obtain⟨b,hb⟩:=qFU (hy y hy')
  simp at hb
  exact⟨b,hb,trivial⟩
 exact⟨bs,rfl,by rw [List.length_map] at hl;exact hl⟩
theorem qGu {α:Type} {f:α->List PV} {P:α->Prop} {ys:List (List PV)} (h:∀ y∈ys,∃ a,y=f a/\P a):∃ zs:List α,ys=zs.map f/\∀ z∈zs,P z:=by
 induction ys with
 | nil=>exact⟨[],rfl,by simp⟩
 | cons y r ih=>
  obtain⟨a,rfl,ha⟩:=h y (by simp)
  obtain⟨zs,rfl,hz⟩:=ih fun z hz=>h z (by simp [hz])
  exact⟨a::zs,rfl,fun z hm=>by rcases List.mem_cons.1 hm with rfl | hm;exact ha;exact hz z hm⟩
theorem qWH {m:Nat} {xs:List PV} (h:TyT Tryz.prog (m+1) 3 xs):∃ n,xs=[i64 n]/\-9223372036854775808<=n/\n<=9223372036854775807:=by
 have hp:partsOf Tryz.prog 3=none:=by simp [partsOf,Tryz.underlying3]
 simp only [TyT,hp,Tryz.underlying3] at h
 obtain⟨n,rfl,hw⟩:=h
 exact⟨n,rfl,bounds_i64 hw⟩
theorem qWG {m:Nat} {xs:List PV} (h:TyT Tryz.prog (m+1) 9 xs):∃ s,xs=[.str s]/\s.length<=9223372036854775807:=by
 have hp:partsOf Tryz.prog 9=none:=by simp [partsOf,Tryz.underlying9]
 simp only [TyT,hp,Tryz.underlying9] at h
 obtain⟨n,rfl,hl⟩:=h
 exact⟨n,rfl,hl⟩
theorem qPw {m:Nat} {xs:List PV} (h:TyT Tryz.prog (m+1) 4 xs):∃ b,xs=[.bool b]:=by
 have hp:partsOf Tryz.prog 4=none:=by simp [partsOf,Tryz.underlying4]
 simp only [TyT,hp,Tryz.underlying4] at h
 exact h
theorem qR1 {m:Nat} {t:TypeId} {x:PV} (hp:partsOf Tryz.prog t=none) (h:qPg Tryz.prog m t x):TyT Tryz.prog m t [x]:=by
 simpa only [qPg,hp] using h
end Go.Proofs.YtohfoaplnjcihaaGreatDoor
namespace Go.Proofs.YtohfoaplnjcihaaGreatDoor.Y
open Go
def okT (P:Program) (S:List TypeId) (t:TypeId):Bool:=match partsOf P t with
 | some l=>decide (qHQ P l 0=some (P.cellsOf t)) && l.all fun f=>qBm f.1 S
 | none=>match P.underlying t with
  | some (.slice e)=>decide (0<P.cellsOf e) && qBm e S
  | some d=>basic d
  | none=>false
def qEM (P:Program) (S:List TypeId):Bool:=S.all (okT P S)
theorem qJh {n:Nat}:∀ {l:List Nat},qBm n l=true->n∈l
 | [],h=>by simp [qBm] at h
 | m::r,h=>by
  rw [qBm] at h
  split at h
  ·rename_i e
   rw [Nat.eq_of_beq_eq_true e];exact List.mem_cons_self ..
  ·exact List.mem_cons_of_mem _ (qJh h)
theorem qG2 {P:Program} {S:List TypeId} {t:TypeId} (hS:qEM P S=true) (h:qBm t S=true):okT P S t=true:=List.all_eq_true.1 hS _ (qJh h)
def qTY (P:Program):List TypeId->List PV->Prop
 | [],xs=>xs=[]
 | t::ts,xs=>∃ x r,xs=x::r/\(∃ m,qPg P m t x)/\qTY P ts r
theorem qL1 {P:Program} {p q:TypeId->List PV->Prop} (h:∀ t xs,p t xs->q t xs):∀ {l:List (TypeId × Nat)} {xs:List PV},qXP P p l xs->qXP P q l xs
 | [],_,hx=>hx
 | f::r,xs,⟨ys,zs,e,h1,h2,h3⟩=>⟨ys,zs,e,h1,h _ _ h2,qL1 h h3⟩
theorem qSC {P:Program}:∀ (m:Nat) (t:TypeId) (xs:List PV),TyT P m t xs->TyT P (m+1) t xs
 | 0,_,_,h=>h.elim
 | m+1,t,xs,h=>by
  have ih:=qSC (P:=P) m
  cases hp:partsOf P t with
  | some l=>
   simp only [TyT,hp] at h ⊢
   exact qL1 ih h
  | none=>
   cases hu:P.underlying t with
   | none=>simp only [TyT,hp,hu] at h
   | some d=>
    cases d with
    | bool=>simp only [TyT,hp,hu] at h ⊢;exact h
    | int k=>simp only [TyT,hp,hu] at h ⊢;exact h
    | string=>simp only [TyT,hp,hu] at h ⊢;exact h
    | slice e=>
     simp only [TyT,hp,hu] at h ⊢
     cases hb:Nat.beq (P.cellsOf e) 1 with
     | true=>
      simp only [hb] at h ⊢
      obtain⟨ys,h1,h2,h3⟩:=h
      exact⟨ys,h1,h2,fun y hy=>ih _ _ (h3 y hy)⟩
     | false=>
      simp only [hb] at h ⊢
      obtain⟨ys,h1,h2,h3⟩:=h
      exact⟨ys,h1,h2,fun y hy=>ih _ _ (h3 y hy)⟩
    | _=>simp only [TyT,hp,hu] at h
theorem qIf {P:Program} {m:Nat} {t:TypeId} {x:PV} (h:qPg P m t x):∀ k,qPg P (m+k) t x
 | 0=>h
 | k+1=>by
  have ih:=qIf h k
  unfold qPg at ih ⊢
  split at ih
  ·rename_i hp
   obtain⟨xs,e,hx⟩:=ih
   exact⟨xs,e,qSC _ _ _ hx⟩
  ·exact qSC _ _ _ ih
section
variable {H:Type} {enc:TypeId × Value->H} {P:Program} {W:World} {sp:Nat->Bool} {held:Bool}
theorem qFK {fz:Fzn} (hfz:qOr fz W) {S:List TypeId} (hS:qEM P S=true):∀ (n:Nat) (t:TypeId) (cs:List Value) (x:DataW H × List MemPlace),qBm t S=true->DataW.trod enc P W 0 sp held n t cs=some x->Rd P fz n t cs
 | 0,_,_,_,_,h=>by simp [DataW.trod] at h
 | m+1,t,cs,x,hs,h=>by
  have ih:=qFK hfz hS m
  have hs:=qG2 hS hs
  simp only [okT] at hs
  cases hp:partsOf P t with
  | some l=>
   simp only [hp,Bool.and_eq_true,decide_eq_true_eq,List.all_eq_true] at hs
   obtain⟨xs,k,h1,h2,h3,h4,h5⟩:=qJH hp h
   obtain rfl:m=k:=by omega
   obtain⟨ys,g1,g2,g3⟩:=qRY (fz:=fz) (m:=m) (cs:=cs) l 0 (by rw [h3];exact hs.1) fun f hf=>by
    obtain⟨i,hi,rfl⟩:=List.getElem_of_mem hf
    have:=h5 i _ (List.getElem?_eq_getElem hi)
    rw [List.getElem?_eq_getElem (by omega)] at this
    exact ih _ _ _ (hs.2 _ hf) this
   exact⟨ys,by simpa using g1,by simpa using g2,by simp only [TyT,hp];exact g3⟩
  | none=>
   simp only [hp] at hs
   cases hu:P.underlying t with
   | none=>simp [hu] at hs
   | some d=>
    simp only [hu] at hs
    cases d with
    | bool=>
     obtain⟨b,rfl,_⟩:=DataW.trod_bool hu h
     exact⟨[.bool b],by simp [VPL,VP],by simp [qBJ],by simp [TyT,hp,hu]⟩
    | int k=>
     obtain⟨b,rfl,_,hw⟩:=DataW.trod_int hu h
     exact⟨[.int k b],by simp [VPL,VP],by simp [qBJ],by simp [TyT,hp,hu,hw]⟩
    | string=>
     obtain⟨⟨⟨s⟩⟩,rfl,_,hw⟩:=DataW.trod_string hu h
     exact⟨[.str s],by simp [VPL,VP],by simp [qBJ],by simp only [TyT,hp,hu];exact⟨s,rfl,hw⟩⟩
    | slice e=>
     simp only [Bool.and_eq_true,decide_eq_true_eq] at hs
     obtain⟨hs0,hse⟩:=hs
     have fin:∀ (v:Value) (len:Nat) (yss:List (List PV)),len<=maxLen->yss.length=len->(∀ ys∈yss,ys.length=P.cellsOf e/\TyT P m e ys)->qBJ v=true ->
       (yss=[]->∃ a c,v=.slice a 0 c)->(yss ≠ []->∃ b o c arr us,v=.slice (some ⟨b,o,none⟩) len c/\len<=c/\fz b=some arr/\qNK fz (P.cellsOf e) yss us/\Seg arr o us)->Rd P fz (m+1) t [v]:=by
      intro v len yss hml hlen hty hpl hnil hcons
      by_cases h1:P.cellsOf e=1
      ·have hfl:=qLa (l:=yss) fun c hc=>by rw [(hty c hc).1,h1]
       refine⟨[.lst yss.flatten],?_,by simpa using hpl,?_⟩
       ·simp only [VPL]
        refine⟨v,[],rfl,?_,rfl⟩
        simp only [VP]
        by_cases hy:yss=[]
        ·exact .inl ⟨by simp [hy],hnil hy⟩
        ·obtain⟨b,o,c,arr,us,k1,k2,k3,k4,k5⟩:=hcons hy
         exact .inr ⟨b,o,c,arr,us,by rw [hfl.1,hlen];exact k1,by rw [hfl.1,hlen];exact k2,k3,(qB7.1 k4).1,k5⟩
       ·simp only [TyT,hp,hu,h1]
        exact⟨_,rfl,by rw [hfl.1,hlen];exact hml,fun y hy=>(hty _ (hfl.2 y hy)).2⟩
      ·refine⟨[.lsts (P.cellsOf e) yss],?_,by simpa using hpl,?_⟩
       ·simp only [VPL]
        refine⟨v,[],rfl,?_,rfl⟩
        simp only [VP]
        by_cases hy:yss=[]
        ·exact .inl ⟨hy,hnil hy⟩
        ·obtain⟨b,o,c,arr,us,k1,k2,k3,k4,k5⟩:=hcons hy
         exact .inr ⟨b,o,c,arr,us,by rw [hlen];exact k1,by rw [hlen];exact k2,k3,k4,k5⟩
       ·have hb:Nat.beq (P.cellsOf e) 1=false:=qGR h1
        simp only [TyT,hp,hu,hb]
        exact⟨_,rfl,by rw [hlen];exact hml,fun y hy=>(hty _ hy).2⟩
     rcases DataW.trod_slice hu h with ⟨rfl,_⟩ | ⟨a,len,cap,elems,rest,n',hn',rfl,_,_,hlc,hcm,hel,hE,_,_⟩
     ·exact fin _ 0 [] (by simp [maxLen]) rfl (by simp) rfl (fun _=>⟨none,0,rfl⟩) (by simp)
     ·obtain rfl:m=n':=by omega
      have hcs:∀ i,i<len->∃ cs',W.cells? 0 (a.add (i * P.cellsOf e)) (P.cellsOf e)=some cs'/\Rd P fz m e cs':=by
       intro i hi
       have:=hE i hi
       rw [List.getElem?_eq_getElem (by omega),Option.bind_eq_some_iff] at this
       obtain⟨cs',h1,h2⟩:=this
       exact⟨cs',h1,ih _ _ _ hse h2⟩
      by_cases hl0:len=0
      ·subst hl0
       exact fin _ 0 [] (by simp [maxLen]) rfl (by simp) rfl (fun _=>⟨_,_,rfl⟩) (by simp)
      ·obtain⟨cs0,c1,_⟩:=hcs 0 (by omega)
       have ha:a.add (0 * P.cellsOf e)=a:=by simp [Addr.add]
       rw [ha] at c1
       obtain⟨c,tt,z,hb,hsp,_,_,_⟩:=qG3 hs0 c1
       have key:∀ k,k<=len->∃ yss us,yss.length=k/\qNK fz (P.cellsOf e) yss us/\(∀ u∈us,qBJ u=true)/\(∀ ys∈yss,ys.length=P.cellsOf e/\TyT P m e ys)/\(k ≠ 0->a.off+k * P.cellsOf e<=c.toList.length)/\us=(c.toList.drop a.off).take (k * P.cellsOf e):=by
        intro k
        induction k with
        | zero=>intro _;exact⟨[],[],rfl,by simp [qNK],by simp,by simp,by simp,by simp⟩
        | succ k ihk=>
         intro hk
         obtain⟨yss,us,k1,k2,k3,k4,k5,k6⟩:=ihk (by omega)
         obtain⟨cs',d1,ys,d2,d3,d4⟩:=hcs k (by omega)
         obtain⟨c',tt',z',e1,e2,e3,e4,e5⟩:=qG3 hs0 d1
         have hblk:(a.add (k * P.cellsOf e)).block=a.block:=by unfold Addr.add;split <;> rfl
         have hoff:(a.add (k * P.cellsOf e)).off=a.off+k * P.cellsOf e:=by unfold Addr.add;split <;> simp_all
         rw [hblk,hb] at e1
         simp only [Option.some.injEq,Obj.cells.injEq] at e1
         obtain⟨rfl,_,_⟩:=e1
         rw [hoff] at e4 e5
         have hys:ys.length=P.cellsOf e:=by rw [<- qA9 d2,e3]
         have hf:=qB7.1 k2
         refine⟨yss++[ys],us++cs',by simp [k1],qB7.2 ⟨?_,?_⟩,?_,?_,fun _=>by rw [Nat.succ_mul];omega,?_⟩
         ·simpa using qFF hf.1 d2
         ·intro q hq;rcases List.mem_append.1 hq with hq | hq
          ·exact hf.2 q hq
          ·simp at hq;subst hq;exact hys
         ·intro u hu;rcases List.mem_append.1 hu with hu | hu
          ·exact k3 u hu
          ·exact d3 u hu
         ·intro q hq;rcases List.mem_append.1 hq with hq | hq
          ·exact k4 q hq
          ·simp at hq;subst hq;exact⟨hys,d4⟩
         ·rw [k6,e5,Nat.succ_mul,List.take_add,List.drop_drop]
       obtain⟨yss,us,k1,k2,k3,k4,k5,k6⟩:=key len (Nat.le_refl _)
       have k5:=k5 hl0
       have hne:yss ≠ []:=by intro e;subst e;simp at k1;omega
       refine fin _ len yss (by omega) k1 k4 rfl (fun e=>absurd e hne) fun _=>⟨a.block,a.off,cap,c.toList,us,?_,hlc,hfz _ _ _ _ hb,k2,?_⟩
       ·obtain⟨ab,ao,asp⟩:=a;simp only [] at hsp;subst hsp;rfl
       ·refine⟨c.toList.take a.off,c.toList.drop (a.off+len * P.cellsOf e),?_,?_,k3⟩
        ·rw [k6,List.append_assoc,<- List.drop_drop,List.take_append_drop,List.take_append_drop]
        ·rw [List.length_take];omega
    | _=>simp [basic] at hs
end
section
variable {H:Type} {enc:TypeId × Value->H} {P:Program} {W W':World} {sp':Nat->Bool} {held:Bool}
theorem qI0 (hk:Kept W W') (hsp:∀ b,b<W.heap.size->sp' b=true) {S:List TypeId} (hS:qEM P S=true):∀ (n:Nat) (t:TypeId) (cs:List Value) (x:DataW H × List MemPlace),qBm t S=true->DataW.trod enc P W 0 (fun _=>true) held n t cs=some x->DataW.trod enc P W' 0 sp' held n t cs=some x
 | 0,t,cs,x,hs,h=>by simp [DataW.trod] at h
 | n+1,t,cs,x,hs,h=>by
  have ih:=qI0 hk hsp hS n
  have hs:=qG2 hS hs
  simp only [okT] at hs
  cases hu:P.underlying t with
  | none=>
   have hp:partsOf P t=none:=by simp [partsOf,hu]
   simp [hp,hu] at hs
  | some d=>
   cases d with
   | struct fs=>
    have hp:partsOf P t=some (fs.toList.map fun f=>(f.type,f.offset)):=by simp [partsOf,hu]
    simp only [hp,Bool.and_eq_true,List.all_eq_true] at hs
    unfold DataW.trod at h ⊢
    rw [hu] at h ⊢
    simp only [] at h ⊢
    split at h
    ·rename_i hl
     rw [if_pos hl]
     rw [Option.map_eq_some_iff] at h ⊢
     obtain⟨xs,h1,h2⟩:=h
     exact⟨xs,mapM_mono (fun f hf y hy=>ih _ _ _ (hs.2 (f.type,f.offset) (List.mem_map_of_mem hf)) hy) h1,h2⟩
    ·cases h
   | array k e=>
    have hp:partsOf P t=some ((List.range k).map fun i=>(e,i * P.cellsOf e)):=by simp [partsOf,hu]
    simp only [hp,Bool.and_eq_true,List.all_eq_true] at hs
    unfold DataW.trod at h ⊢
    rw [hu] at h ⊢
    simp only [] at h ⊢
    split at h
    ·rename_i hl
     rw [if_pos hl]
     rw [Option.map_eq_some_iff] at h ⊢
     obtain⟨xs,h1,h2⟩:=h
     exact⟨xs,mapM_mono (fun i hi y hy=>ih _ _ _ (hs.2 (e,i * P.cellsOf e) (List.mem_map_of_mem hi)) hy) h1,h2⟩
    ·cases h
   | bool=>
    obtain⟨b,rfl,rfl⟩:=DataW.trod_bool hu h
    unfold DataW.trod;rw [hu]
   | int k=>
    obtain⟨b,rfl,rfl,hw⟩:=DataW.trod_int hu h
    unfold DataW.trod;rw [hu];simp [hw]
   | string=>
    obtain⟨s,rfl,rfl,hw⟩:=DataW.trod_string hu h
    unfold DataW.trod;rw [hu];simp [hw]
   | slice e=>
    have hp:partsOf P t=none:=by simp [partsOf,hu]
    simp only [hp,hu,Bool.and_eq_true,decide_eq_true_eq] at hs
    rcases DataW.trod_slice hu h with ⟨rfl,rfl⟩ | ⟨a,len,cap,_,_,_,_,rfl,_⟩
    ·unfold DataW.trod;rw [hu];rfl
    unfold DataW.trod at h ⊢
    rw [hu] at h ⊢
    simp only [if_true] at h ⊢
    split at h
    rotate_left
    ·cases h
    rename_i hc
    rw [if_pos hc]
    rw [Option.bind_eq_some_iff] at h ⊢
    obtain⟨elems,h1,h2⟩:=h
    rw [Option.map_eq_some_iff] at h2
    obtain⟨rest,h2,h3⟩:=h2
    have el:∀ i y,(W.cells? 0 (a.add (i * P.cellsOf e)) (P.cellsOf e)).bind (DataW.trod enc P W 0 (fun _=>true) held n e)=some y->(W'.cells? 0 (a.add (i * P.cellsOf e)) (P.cellsOf e)).bind (DataW.trod enc P W' 0 sp' held n e)=some y:=by
     intro i y hy
     rw [Option.bind_eq_some_iff] at hy ⊢
     obtain⟨cs',g1,g2⟩:=hy
     exact⟨cs',hk.cells g1,ih _ _ _ hs.2 g2⟩
    refine⟨elems,mapM_mono (fun i _ y hy=>el i y hy) h1,?_⟩
    rw [Option.map_eq_some_iff]
    refine⟨rest,?_,h3⟩
    by_cases hd:cap - len=0
    ·rw [hd] at h2 ⊢
     simp at h2
     subst h2
     cases sp' a.block <;> simp
    ·have hb:a.block<W.heap.size:=by
      have hl:=mapM_some_length h2
      rw [List.length_range] at hl
      have:=mapM_some_get h2 0 0 (by rw [List.getElem?_eq_getElem (by simp;omega)];simp)
      rw [List.getElem?_eq_getElem (by omega),Option.bind_eq_some_iff] at this
      obtain⟨cs',g1,_⟩:=this
      obtain⟨c,t',z,g3,_⟩:=qG3 hs.1 g1
      have hblk:(a.add ((len+0) * P.cellsOf e)).block=a.block:=by unfold Addr.add;split <;> rfl
      rw [hblk] at g3
      exact(Array.getElem?_eq_some_iff.1 g3).1
     rw [if_pos (hsp _ hb)]
     exact mapM_mono (fun i _ y hy=>el (len+i) y hy) h2
   | _=>
    have hp:partsOf P t=none:=by simp [partsOf,hu]
    simp [hp,hu,basic] at hs
theorem qF4 (hk:Kept W W') (hsp:∀ b,b<W.heap.size->sp' b=true) {S:List TypeId} (hS:qEM P S=true):∀ {ts:List TypeId} {vs:List Value} {ds:List (DataW H)} {ps:List MemPlace},ts.all (fun t=>qBm t S)=true->DataW.TrodAll enc P W 0 (fun _=>true) held ts vs ds ps->DataW.TrodAll enc P W' 0 sp' held ts vs ds ps
 | [],[],[],ps,_,h=>h
 | t::ts,v::vs,d::ds,ps,hs,h=>by
  simp only [List.all_cons,Bool.and_eq_true] at hs
  obtain⟨p,q,⟨fuel,h1⟩,h2,h3⟩:=h
  exact⟨p,q,⟨fuel,qI0 hk hsp hS _ _ _ _ hs.1 h1⟩,qF4 hk hsp hS hs.2 h2,h3⟩
 | [],[],_::_,ps,_,h=>by simp [DataW.TrodAll] at h
 | [],_::_,_,ps,_,h=>by simp [DataW.TrodAll] at h
 | _::_,[],_,ps,_,h=>by simp [DataW.TrodAll] at h
 | _::_,_::_,[],ps,_,h=>by simp [DataW.TrodAll] at h
theorem qVm {S:List TypeId} (hS:qEM P S=true) {base:Nat} {t:TypeId} {v:Value} {d:DataW H} {ps:List MemPlace} (hs:qBm t S=true) (hval:Value.okWide P W .any base t v) (h:DataW.Trod enc P W 0 (fun _=>true) true t v d ps):∃ x,VP (qOS W) x v/\∃ m,qPg P m t x:=by
 obtain⟨fuel,h⟩:=h
 obtain⟨xs,h1,h2,h3⟩:=qFK (qKU W) hS fuel t _ _ hs h
 unfold Value.okWide at hval
 cases hp:partsOf P t with
 | some l=>
  have:∃ cs,v=.agg cs:=by
   unfold partsOf at hp
   split at hp
   ·rename_i fs hu;simp only [hu] at hval;obtain⟨cs,h,_⟩:=hval;exact⟨cs,h⟩
   ·rename_i k e hu;simp only [hu] at hval;obtain⟨cs,h,_⟩:=hval;exact⟨cs,h⟩
   ·cases hp
  obtain⟨cs,rfl⟩:=this
  exact⟨.agg xs,by simp only [VP];exact⟨cs,rfl,h1⟩,fuel,by simp only [qPg,hp];exact⟨xs,rfl,h3⟩⟩
 | none=>
  have hv:v.cells=#[v]:=by
   have hs:=qG2 hS hs
   ·simp only [okT,hp] at hs
    cases hu:P.underlying t with
    | none=>simp [hu] at hs
    | some d=>
     simp only [hu] at hs hval
     cases d with
     | struct fs=>simp [partsOf,hu] at hp
     | array k e=>simp [partsOf,hu] at hp
     | bool=>cases v <;> simp_all [Cell.okWide,Cell.ok,Value.cells]
     | int k=>cases v <;> simp_all [Cell.okWide,Cell.ok,Value.cells]
     | string=>cases v <;> simp_all [Cell.okWide,Cell.ok,Value.cells]
     | slice e=>cases v <;> simp_all [Cell.okWide,Cell.ok,Value.cells]
     | _=>simp [basic] at hs
  rw [hv] at h1
  obtain⟨x,rfl,h4⟩:∃ x,xs=[x]/\VP (qOS W) x v:=by
   match xs,h1 with
   | [],h1=>simp [VPL] at h1
   | x::r,h1=>
    simp only [VPL] at h1
    obtain⟨u,us,e,g1,g2⟩:=h1
    simp only [List.cons.injEq] at e
    obtain⟨rfl,rfl⟩:=e
    match r,g2 with
    | [],_=>exact⟨x,rfl,g1⟩
    | y::r,g2=>simp [VPL] at g2
  exact⟨x,h4,fuel,by simp only [qPg,hp];exact h3⟩
theorem qKk {S:List TypeId} (hS:qEM P S=true) {base:Nat}:∀ {ts:List TypeId} {vs:List Value} {ds:List (DataW H)} {ps:List MemPlace},ts.all (fun t=>qBm t S)=true->(∀ (j:Nat) t v,ts[j]?=some t->vs[j]?=some v->Value.okWide P W .any base t v)->DataW.TrodAll enc P W 0 (fun _=>true) true ts vs ds ps ->
  ∃ xs,VPL (qOS W) xs vs/\qTY P ts xs/\ds.length=ts.length
 | [],[],[],ps,_,_,_=>⟨[],by simp [VPL],rfl,rfl⟩
 | t::ts,v::vs,d::ds,ps,hs,hv,h=>by
  simp only [List.all_cons,Bool.and_eq_true] at hs
  obtain⟨p,q,h1,h2,h3⟩:=h
  obtain⟨x,g1,g2⟩:=qVm hS hs.1 (hv 0 t v rfl rfl) h1
  obtain⟨xs,k1,k2,k3⟩:=qKk hS hs.2 (fun j t v ht hv'=>hv (j+1) t v ht hv') h2
  exact⟨x::xs,by simp only [VPL];exact⟨v,vs,rfl,g1,k1⟩,⟨x,xs,rfl,g2,k2⟩,by simp [k3]⟩
 | [],[],_::_,ps,_,_,h=>by simp [DataW.TrodAll] at h
 | [],_::_,_,ps,_,_,h=>by simp [DataW.TrodAll] at h
 | _::_,[],_,ps,_,_,h=>by simp [DataW.TrodAll] at h
 | _::_,_::_,[],ps,_,_,h=>by simp [DataW.TrodAll] at h
end
section
variable {cx:Cx}
theorem qIu {S:List TypeId} (hS:qEM cx.P S=true) {H:Type} {enc:TypeId × Value->H} {W:World} {f:FuncId} {fn:Func} {c:Code} {base:Nat} {args:Array Value} {ds:List (DataW H)} {ps:List MemPlace}
  (hf : cx.P.funcs[f]? = some fn) (hname : (fn.name == "runtime.NumGoroutine") = false) (hb : fn.body = some c) (hs : fn.params.toList.all (fun t => qBm t S) = true)
  (hpure:∀ xs,qTY cx.P fn.params.toList xs->Pure cx f xs (·=.ret [.bool true]))
  (hval:∀ (j:Nat) t v,fn.params[j]?=some t->args[j]?=some v->Value.okWide cx.P W .any base t v)
  (hA:DataW.TrodAll enc cx.P W 0 (fun _=>true) true fn.params.toList args.toList ds ps)
  (hglob:∀ g cs,qPO cx.gt g=some cs->GlobV (qOS W) g cs) :
  Calls cx.P f args W fun e W'=>e=.returned (.bool true)/\W'.os=W.os/\W'.output=W.output/\∀ k,k<W.heap.size->W'.heap[k]?=W.heap[k]?:=by
 obtain⟨xs,h1,h2,_⟩:=qKk hS hs (fun j t v ht hv=>hval j t v (by simpa using ht) (by simpa using hv)) hA
 have hR:R cx ⟨fun _=>none,qOS W⟩ ⟨0,[]⟩ W:=by
  refine⟨hglob,fun _ _=>rfl,fun b arr hb=>?_,fun n o hn=>by simp [qAk] at hn,fun n o q hn=>by simp [qAk] at hn,fun n o m p q q' hn=>by simp [qAk] at hn⟩
  obtain⟨c,t,z,g1,rfl⟩:=qRV hb
  exact⟨t,z,g1⟩
 have key:∀ e w',Post cx ⟨fun _=>none,qOS W⟩ ⟨0,[]⟩ W (qNN (·=.ret [.bool true])) e w'->e=.returned (.bool true)/\w'.os=W.os/\w'.output=W.output/\∀ k,k<W.heap.size->w'.heap[k]?=W.heap[k]?:=by
  intro e w' hP
  obtain⟨r,Γ',hq,_,hE,_,hT,_⟩:=qGD hR hP
  subst hq
  obtain⟨v',rfl,hv⟩:=hE
  simp only [VR,VP] at hv
  subst hv
  exact⟨rfl,hT.os,hT.output,fun k hk=>hT.kept k hk qFh⟩
 have hrun:=qEh hf hname hb args W
 rcases hpure xs h2 ⟨fun _=>none,qOS W⟩ W args.toList hR (qBN.2 h1) with ⟨_,h4⟩ | ⟨v',w',h4,_⟩
 ·exact h4.mono key
 ·rw [hrun] at h4
  injection h4 with h4
  cases h4
theorem qKE {S:List TypeId} (hS:qEM cx.P S=true) {H:Type} {enc:TypeId × Value->H} {W W':World} {fn:Func} {s:ChangeSpec} {bt:TypeId} {apart fresh handsOn:Bool} {args:Array Value} {ds gs:List (DataW H)} {before:List MemPlace}
  (hs:fn.params.toList.all (fun t=>qBm t S)=true) (hvars:s.vars=[]) (hres:fn.resultTypes=#[bt]) (hbt:cx.P.underlying bt=some .bool)
  (hfn:∀ ds:List (DataW H),ds.length=fn.params.toList.length->s.fn H ds={ results:=[.lit (.bool true)],args:=ds })
  (hW:DataW.Whole enc cx.P fn.params.toList s.vars apart W args.toList ds gs before) (hlen:ds.length=fn.params.toList.length)
  (hos:W'.os=W.os) (hout:W'.output=W.output) (hkept:∀ k,k<W.heap.size->W'.heap[k]?=W.heap[k]?) :
  s.post enc cx.P fn apart fresh handsOn false W args (.bool true) W':=by
 have hk:Kept W W':=fun b o hb=>by rw [hkept b (Array.getElem?_eq_some_iff.1 hb).1];exact hb
 have hW':=hW
 obtain⟨p,q,h1,h2,_,_,_⟩:=hW'
 rw [hvars] at h2
 obtain⟨rfl,rfl⟩:=Go.ChangeShapes.trodVars_none h2
 have e:s.fn H (ds++[])={ results:=[.lit (.bool true)],args:=ds }:=by rw [List.append_nil];exact hfn ds hlen
 refine⟨ds,[],before,[],p,[],hW,?_,?_,?_,?_,fun h=>by cases h⟩
 ·rw [e,hres]
  exact Go.ChangeShapes.trodAll_mk1 (Go.RowKit.shut_bool hbt true)
 ·rw [e]
  exact qF4 hk (fun b hb=>by simpa using hb) hS hs h1
 ·rw [e,hvars]
  rfl
 ·refine⟨hos,hout,fun i hi=>?_⟩
  rw [hkept i hi]
  have:=Array.getElem?_eq_getElem hi
  rw [this]
  cases W.heap[i] <;> simp
end
end Go.Proofs.YtohfoaplnjcihaaGreatDoor.Y
namespace Go.Proofs.YtohfoaplnjcihaaGreatDoor
open Go Y
set_option maxRecDepth 100000
set_option maxHeartbeats 4000000
theorem qUZ:∀ {m:Nat} {xs:List PV},TyT Tryz.prog m 5 xs->∃ b:UInt8,xs=[u8 b]
 | 0,_,h=>h.elim
 | _+1,_,h=>qFU h
theorem qHE:∀ {m:Nat} {xs:List PV},TyT Tryz.prog m 3 xs->∃ n,xs=[i64 n]/\-9223372036854775808<=n/\n<=9223372036854775807
 | 0,_,h=>h.elim
 | _+1,_,h=>qWH h
theorem qP2:∀ {m:Nat} {xs:List PV},TyT Tryz.prog m 9 xs->∃ s,xs=[.str s]/\s.length<=9223372036854775807
 | 0,_,h=>h.elim
 | _+1,_,h=>qWG h
theorem qUa:∀ {m:Nat} {xs:List PV},TyT Tryz.prog m 34 xs->∃ l:List Int,xs=[ints l]/\l.length<=9223372036854775807
 | 0,_,h=>h.elim
 | m+1,xs,h=>by
  have hp:partsOf Tryz.prog 34=none:=by simp [partsOf,Tryz.underlying34]
  have hc:Tryz.prog.cellsOf 3=1:=by kernel_rfl
  rw [TyT] at h
  simp only [hp,Tryz.underlying34,hc] at h
  obtain⟨ys,rfl,hl,hy⟩:=h
  obtain⟨l,rfl,_⟩:=qLP (f:=i64) (P:=fun _=>True) fun y hy'=>by
   obtain⟨b,hb,_⟩:=qHE (hy y hy')
   simp at hb
   exact⟨b,hb,trivial⟩
  exact⟨l,rfl,by rw [List.length_map] at hl;exact hl⟩
theorem qTg:∀ {m:Nat} {xs:List PV},TyT Tryz.prog m qTV xs->∃ r:Rf,xs=r.cells/\BigR r
 | 0,_,h=>h.elim
 | m+1,xs,h=>by
  have hp:partsOf Tryz.prog qTV=some [(9,0),(3,1),(9,2),(3,3)]:=by kernel_rfl
  rw [TyT] at h
  simp only [hp] at h
  obtain⟨x1,_,rfl,_,h1,x2,_,rfl,_,h2,x3,_,rfl,_,h3,x4,_,rfl,_,h4,rfl⟩:=h
  obtain⟨a,rfl,ha⟩:=qP2 h1
  obtain⟨b,rfl,_⟩:=qHE h2
  obtain⟨c,rfl,hc⟩:=qP2 h3
  obtain⟨d,rfl,_⟩:=qHE h4
  exact⟨⟨a,b,c,d⟩,rfl,ha,hc⟩
theorem qOd:∀ {l:List Cd},(∀ c∈l,qC1 c)->qIv l
 | [],_=>by simp only [qIv]
 | c::l,h=>by
  simp only [qIv]
  exact⟨h c (List.mem_cons_self ..),qOd fun x hx=>h x (List.mem_cons_of_mem _ hx)⟩
theorem qP3:∀ (m:Nat) {xs:List PV},TyT Tryz.prog m qPc xs->∃ c:Cd,xs=c.cells/\qC1 c
 | 0,_,h=>h.elim
 | 1,xs,h=>by
  have hp:partsOf Tryz.prog qPc=some [(3,0),(3,1),(3,2),(3,3),(qTV,4),(34,8),(35,9)]:=by kernel_rfl
  rw [TyT] at h
  simp only [hp] at h
  obtain⟨x1,_,rfl,_,h1,_⟩:=h
  exact h1.elim
 | m+2,xs,h=>by
  have hp:partsOf Tryz.prog qPc=some [(3,0),(3,1),(3,2),(3,3),(qTV,4),(34,8),(35,9)]:=by kernel_rfl
  rw [TyT] at h
  simp only [hp] at h
  obtain⟨x1,_,rfl,_,h1,x2,_,rfl,_,h2,x3,_,rfl,_,h3,x4,_,rfl,_,h4,x5,_,rfl,_,h5,x6,_,rfl,_,h6,x7,_,rfl,_,h7,rfl⟩:=h
  obtain⟨a,rfl,_⟩:=qHE h1
  obtain⟨b,rfl,_⟩:=qHE h2
  obtain⟨c,rfl,_⟩:=qHE h3
  obtain⟨d,rfl,_⟩:=qHE h4
  obtain⟨r,rfl,hr⟩:=qTg h5
  obtain⟨s,rfl,hs⟩:=qUa h6
  have hp2:partsOf Tryz.prog 35=none:=by simp [partsOf,Tryz.underlying35]
  have hc2:Tryz.prog.cellsOf qPc=10:=by kernel_rfl
  rw [TyT] at h7
  simp only [hp2,Tryz.underlying35,hc2] at h7
  obtain⟨ys,rfl,hn,hy⟩:=h7
  obtain⟨l,rfl,hl⟩:=qGu (f:=Cd.cells) (P:=qC1) fun y hy'=>qP3 m (hy y hy')
  rw [List.length_map] at hn
  refine⟨.mk a b c d r s l,by rw [Cd.cells,qBw];rfl,?_⟩
  simp only [qC1]
  exact⟨hr,hs,hn,qOd hl⟩
structure Be where
 what:UInt8
 place:UInt8
 cse:UInt8
 n:Int
 name:List UInt8
 ref:Rf
 cond:Cd
abbrev Be.cells (b:Be):List PV:=[u8 b.what,u8 b.place,u8 b.cse,i64 b.n, .str b.name]++(b.ref.cells++b.cond.cells)
structure Be.ok (b:Be):Prop where
 n:-9223372036854775808<=b.n/\b.n<=9223372036854775807
 name:qKq b.name
 ref:BigR b.ref
 cond:qC1 b.cond
theorem qPY {m:Nat} {x:PV} (h:qPg Tryz.prog m 39 x):∃ b:Be,x=.agg b.cells/\b.ok:=by
 have hp:partsOf Tryz.prog 39=some [(5,0),(5,1),(5,2),(3,3),(9,4),(qTV,5),(qPc,9)]:=by kernel_rfl
 simp only [qPg,hp] at h
 obtain⟨xs,rfl,h⟩:=h
 cases m with
 | zero=>exact h.elim
 | succ m=>
  rw [TyT] at h
  simp only [hp] at h
  obtain⟨x1,_,rfl,_,h1,x2,_,rfl,_,h2,x3,_,rfl,_,h3,x4,_,rfl,_,h4,x5,_,rfl,_,h5,x6,_,rfl,_,h6,x7,_,rfl,_,h7,rfl⟩:=h
  obtain⟨a,rfl⟩:=qUZ h1
  obtain⟨b,rfl⟩:=qUZ h2
  obtain⟨c,rfl⟩:=qUZ h3
  obtain⟨n,rfl,hn⟩:=qHE h4
  obtain⟨s,rfl,hs⟩:=qP2 h5
  obtain⟨r,rfl,hr⟩:=qTg h6
  obtain⟨cd,rfl,hcd⟩:=qP3 _ h7
  exact⟨⟨a,b,c,n,s,r,cd⟩,by simp [Be.cells],hn,hs,hr,hcd⟩
noncomputable def cb (p:Prop):Bool:=@decide p (Classical.propDecidable p)
theorem qPk {p:Prop} (h:p):cb p=true:=by unfold cb;exact @decide_eq_true p (Classical.propDecidable p) h
theorem qG4 {p:Prop} (h:¬ p):cb p=false:=by unfold cb;exact @decide_eq_false p (Classical.propDecidable p) h
theorem qEf {α:Type} {a b:List α} {k:Nat} (d:α) (ha:k<a.length) (hb:k<b.length) (h:a.take k=b.take k) (he:a.getD k d=b.getD k d):a.take (k+1)=b.take (k+1):=by
 rw [qAY d ha,qAY d hb,h,he]
theorem qF5 {α:Type} {a b:List α} {k:Nat} (hl:a.length=b.length) (hk:¬ k<a.length) (h:a.take k=b.take k):a=b:=by
 rw [qBg (by omega),qBg (by omega)] at h;exact h
theorem qQA (a b:List Int) (_ha:a.length<=9223372036854775807) (hb:b.length<=9223372036854775807):Pure cx 58 [ints a,ints b] (·=.ret [.bool (cb (a=b))]):=by
 have ha':(a.map i64).length=a.length:=List.length_map ..
 have hb':(b.map i64).length=b.length:=List.length_map ..
 refine qAC Tryz.func58 rfl rfl rfl ?_
 refine And.intro (fun h1=>?_) (fun h1=>?_)
 rotate_left
 ·have h1:¬ ((a.map i64).length:Int)=((b.map i64).length:Nat):=h1
  rw [ha',hb'] at h1
  exact qAG _ rfl rfl (by rw [qG4 (fun e=>h1 (by rw [e]))])
 have h1:((a.map i64).length:Int)=((b.map i64).length:Nat):=h1
 rw [ha',hb'] at h1
 have hl:a.length=b.length:=by omega
 refine⟨Nat,fun k=>[(0, .p (ints a)),(1, .p (ints b)),(5, .p (i64 k))],fun _=>⟨0,[]⟩,fun k=>k<=a.length/\a.take k=b.take k,fun k=>a.length - k,?_,?_⟩
 ·exact⟨0,⟨Nat.zero_le _,rfl⟩,qAB [] [] [] rfl (sk) (sk) rfl⟩
 rintro k ⟨k1,k2⟩
 refine And.intro (fun m1=>?_) (fun m1=>?_)
 rotate_left
 ·have m1:¬ (k:Int)<((a.map i64).length:Nat):=m1
  rw [ha'] at m1
  exact qAG _ rfl rfl (by rw [qPk (qF5 hl (by omega) k2)])
 have m1:(k:Int)<((a.map i64).length:Nat):=m1
 rw [ha'] at m1
 have hk:k<a.length:=by omega
 refine VDraw.seq rfl ?_
 refine⟨_,⟨by omega,i64 (a.getD k 0),qGM hk,rfl⟩,?_⟩
 refine⟨_,⟨by omega,i64 (b.getD k 0),qGM (by omega),rfl⟩,?_⟩
 refine And.intro (fun m2=>?_) (fun m2=>?_)
 ·have m2:a.getD k 0=b.getD k 0:=m2
  refine⟨_,w6z,?_⟩
  exact⟨k+1,⟨hk,qEf 0 hk (by omega) k2 m2⟩,qAB [] [] [] rfl (sk) (sk) rfl,by show a.length - (k+1)<a.length - k;omega⟩
 ·have m2:¬ a.getD k 0=b.getD k 0:=m2
  exact qAG _ rfl rfl (by rw [qG4 (fun e=>m2 (by rw [e]))])
mutual
def csz:Cd->Nat
 | .mk _ _ _ _ _ _ ar=>qXY ar+1
def qXY:List Cd->Nat
 | []=>0
 | c::r=>csz c+qXY r
end
theorem qRn:∀ {l:List Cd} {c:Cd},c∈l->csz c<=qXY l
 | [],_,h=>by simp at h
 | x::l,c,h=>by
  rw [qXY]
  rcases List.mem_cons.1 h with rfl | h
  ·omega
  ·have:=qRn h;omega
theorem qTs {a b:Rf} (h:a.cells=b.cells):a=b:=by
 obtain⟨n,m,p,k⟩:=a
 obtain⟨n',m',p',k'⟩:=b
 injection h with h1 h
 injection h with h2 h
 injection h with h3 h
 injection h with h4 h
 injection h1 with h1
 injection h2 with _ h2
 injection h3 with h3
 injection h4 with _ h4
 subst h1 h2 h3 h4
 rfl
def qYD (n:Nat):Prop:=∀ a b:Cd,csz a<=n->qC1 a->qC1 b->Pure cx 57 [a.pv,b.pv] (·=.ret [.bool (cb (a=b))])
theorem qKh {o n r v o' n' r' v':Int} {rf rf':Rf} {st st':List Int} {ar ar':List Cd}:(Cd.mk o n r v rf st ar=.mk o' n' r' v' rf' st' ar') ↔ (o=o'/\n=n'/\r=r'/\v=v'/\rf=rf'/\st=st'/\ar=ar'):=by
 constructor
 ·intro h;injection h with h1 h2 h3 h4 h5 h6 h7;exact⟨h1,h2,h3,h4,h5,h6,h7⟩
 ·rintro⟨rfl,rfl,rfl,rfl,rfl,rfl,rfl⟩;rfl
theorem qQE (m:Nat) (ih:qYD m):qYD (m+1):=by
 intro a b hz hA hB
 obtain⟨o,n,r,v,rf,st,ar⟩:=a
 obtain⟨o',n',r',v',rf',st',ar'⟩:=b
 have hA1:=hA
 have hB1:=hB
 rw [qC1] at hA1 hB1
 obtain⟨_,a2,a3,a4⟩:=hA1
 obtain⟨_,b2,b3,b4⟩:=hB1
 have hI:=qQA st st' a2 b2
 have hla:(qBX ar).length=ar.length:=by rw [qBw,List.length_map]
 have hlb:(qBX ar').length=ar'.length:=by rw [qBw,List.length_map]
 rw [csz] at hz
 refine qAC Tryz.func57 rfl rfl rfl ?_
 refine And.intro (fun h1=>?_) (fun h1=>qAG _ rfl rfl (by rw [qG4 (fun e=>h1 (qKh.1 e).1)]))
 have h1:o=o':=h1
 refine And.intro (fun h2=>?_) (fun h2=>qAG _ rfl rfl (by rw [qG4 (fun e=>h2 (qKh.1 e).2.1)]))
 have h2:n=n':=h2
 refine And.intro (fun h3=>?_) (fun h3=>qAG _ rfl rfl (by rw [qG4 (fun e=>h3 (qKh.1 e).2.2.1)]))
 have h3:r=r':=h3
 refine And.intro (fun h4=>?_) (fun h4=>qAG _ rfl rfl (by rw [qG4 (fun e=>h4 (qKh.1 e).2.2.2.1)]))
 have h4:v=v':=h4
 refine⟨⟨by kernel_rfl,by kernel_rfl⟩,fun h5=>?_,fun h5=>?_⟩
 rotate_left
 ·exact qAG _ rfl rfl (by rw [qG4 (fun e=>h5 (by rw [(qKh.1 e).2.2.2.2.1]))])
 have h5:rf=rf':=qTs (by first | exact h5 | (injection h5))
 by_cases h6:st=st'
 rotate_left
 ·rw [qG4 h6] at hI
  refine hI.eq rfl ?_
  exact qAG _ rfl rfl (by rw [qG4 (fun e=>h6 (qKh.1 e).2.2.2.2.2.1)])
 rw [qPk h6] at hI
 refine hI.eq rfl ?_
 refine And.intro (fun h7=>?_) (fun h7=>?_)
 rotate_left
 ·have h7:¬ ((qBX ar).length:Int)=((qBX ar').length:Nat):=h7
  rw [hla,hlb] at h7
  exact qAG _ rfl rfl (by rw [qG4 (fun e=>h7 (by rw [(qKh.1 e).2.2.2.2.2.2]))])
 have h7:((qBX ar).length:Int)=((qBX ar').length:Nat):=h7
 rw [hla,hlb] at h7
 have hl:ar.length=ar'.length:=by omega
 refine⟨Nat,fun k=>[(2, .ptr 0 0 0),(3, .ptr 1 0 0),(5, .p (i64 k))],fun _=>⟨2,[(1,cO ((Cd.mk o' n' r' v' rf' st' ar').cells.map .p)),(0,cO ((Cd.mk o n r v rf st ar).cells.map .p))]⟩,fun k=>k<=ar.length/\ar.take k=ar'.take k,fun k=>ar.length - k,?_,?_⟩
 ·exact⟨0,⟨Nat.zero_le _,rfl⟩,qAB [] [] [] rfl (sk) (sk) rfl⟩
 rintro k ⟨k1,k2⟩
 refine And.intro (fun m1=>?_) (fun m1=>?_)
 rotate_left
 ·have m1:¬ (k:Int)<((qBX ar).length:Nat):=m1
  rw [hla] at m1
  exact qAG _ rfl rfl (by rw [qPk (qKh.2 ⟨h1,h2,h3,h4,h5,h6,qF5 hl (by omega) k2⟩)])
 have m1:(k:Int)<((qBX ar).length:Nat):=m1
 rw [hla] at m1
 have hk:k<ar.length:=by omega
 have hk':k<ar'.length:=by omega
 have c1:=qDU hk
 have c2:=qDU hk'
 rw [<- qBw] at c1 c2
 have hm:=qAL cd0 hk
 have hm':=qAL cd0 hk'
 have hs:=ih (ar.getD k cd0) (ar'.getD k cd0) (by have:=qRn hm;omega) (qBV a4 hm) (qBV b4 hm')
 have hn:=qEf cd0 hk hk' k2
 have hd:¬ ar.getD k cd0=ar'.getD k cd0->¬ ar=ar':=fun h e=>h (by rw [e])
 generalize ar.getD k cd0=x at c1 hs hn hd
 generalize ar'.getD k cd0=y at c2 hs hn hd
 have hxy:x=y∨¬ x=y:=Classical.em _
 obtain⟨x1,x2,x3,x4,x5,x6,x7⟩:=x
 obtain⟨y1,y2,y3,y4,y5,y6,y7⟩:=y
 refine VDraw.seq rfl ?_
 refine⟨_,⟨by omega,(Cd.mk x1 x2 x3 x4 x5 x6 x7).cells,c1,rfl⟩,?_⟩
 refine⟨_,⟨by omega,(Cd.mk y1 y2 y3 y4 y5 y6 y7).cells,c2,rfl⟩,?_⟩
 refine hxy.elim (fun e=>?_) (fun e=>?_)
 ·rw [qPk e] at hs
  refine hs.eq rfl ?_
  refine⟨_,w6z,?_⟩
  exact⟨k+1,⟨hk,hn e⟩,qAB [] [] [] rfl (sk) (sk) rfl,by show ar.length - (k+1)<ar.length - k;omega⟩
 ·rw [qG4 e] at hs
  refine hs.eq rfl ?_
  exact qAG _ rfl rfl (by rw [qG4 (fun e2=>hd e (qKh.1 e2).2.2.2.2.2.2)])
theorem qNd:∀ n,qYD n
 | 0=>fun a _ h=>by cases a;rw [csz] at h;omega
 | n+1=>qQE n (qNd n)
theorem qUc (a b:Cd) (ha:qC1 a) (hb:qC1 b):Pure cx 57 [a.pv,b.pv] (·=.ret [.bool (cb (a=b))]):=qNd _ a b (Nat.le_refl _) ha hb
end Go.Proofs.YtohfoaplnjcihaaGreatDoor
namespace Go.Proofs.YtohfoaplnjcihaaGreatDoor.Y
open Go
section
variable {C:Cx}
theorem qLV {f : FuncId} {fn : Func} {c : Code} {args : List AV} {u : Md} {H : Hp} {Q : AE -> Md -> Hp -> Prop} (hf : C.P.funcs[f]? = some fn) (hname : (fn.name == "runtime.NumGoroutine") = false) (hb : fn.body = some c)
  (hN:(Nat.ble args.length fn.ntmps && qPS u)=true)
  (hv:vc C none H.next fn.ntmps c (sets (fun _=>und) (qOf 0 args)) [] H (qVv C fn.results.toList H.next u Q)):HoldsD C f args u H Q:=by
 intro Γ w args' m hR hA hM
 simp only [Bool.and_eq_true] at hN
 obtain⟨n1,hdata⟩:=hN
 refine⟨qEh hf hname hb _ _,trivial,fun c₀ cs hu _=>?_⟩
 let b:Frame:={ (default:Frame) with fn:=f,kind:=.deferred,roundOf:=none }
 have hbf:(C.P.funcs[b.fn]?).isSome=true:=by show(C.P.funcs[f]?).isSome=true;rw [hf];rfl
 have henter:Frame.enter C.P f ⟨args'⟩ .deferred=b.atR { tmps:=(⟨args'⟩:Array Value)++Array.replicate (fn.ntmps - args'.length) undef,defers:=[] } [.code c]:=by
  simp [Frame.enter,Frame.atR,hf,hb,b]
 have hc:({ c₀ with mode:=m }:Frame)=c₀:=by subst hu;rfl
 have hS:=qKY (n:=fn.ntmps) hA (Nat.le_of_ble_eq_true n1)
 obtain⟨e2,a2,w2,⟨e,σ2,ds2,H2,Γ2,hQ2,hX2,hS2,hL2⟩,harr2⟩:=qCD (rn:=none) (n0:=H.next) hbf c _ [] H _ Γ _ w (Nat.le_refl _) rfl hR hS hv [] (c₀::cs)
 have hle:=hL2.le hR
 have hmr2:=qSH hle hM
 unfold qVv at hQ2
 split at hQ2 <;> try exact hQ2.elim
 have hdf:=hS2.df
 simp only [DRL] at hdf
 rw [<- henter] at harr2
 have ret:∀ (fr:Frame),fr={ b.atR a2 [] with mode:=.returning }∨(∃ todo,fr={ b.atR a2 todo with mode:=.returning })->qSK C σ2 H2 fn.results.toList (fun vs=>qUQ H.next (fun e H'=>Q e u H') (.returned (qTc vs)) H2) ->
   StepsIn (Machine.fenced C.P (Fz none)) C.P (lone (Frame.enter C.P f ⟨args'⟩ .deferred) (c₀::cs) w) (lone fr (c₀::cs) w2) ->
   ∃ e u' w' fr,qTX C Γ H w Q e u' w'/\ComesIn (Machine.fenced C.P (Fz none)) C.P (lone (Frame.enter C.P f ⟨args'⟩ .deferred) (c₀::cs) w) (lone fr ({ c₀ with mode:=u' }::cs) w') e/\fr.kind=.deferred/\fr.fn=f/\fr.going C.P w' e:=by
  intro fr hfr hr hs
  obtain⟨vs,vs',k1,k2,k3⟩:=qDs hL2.1 hS2 hr
  refine⟨.returned (tup vs'),m,w2,fr,qHk hdata k1 ⟨_,rfl,qR6 k2⟩ hmr2 hL2,by rw [hc];exact hs,?_,?_,?_⟩
  ·rcases hfr with rfl | ⟨todo,rfl⟩ <;> rfl
  ·rcases hfr with rfl | ⟨todo,rfl⟩ <;> rfl
  ·rcases hfr with rfl | ⟨todo,rfl⟩ <;> exact⟨rfl,hdf,fn,hf,qFZ k3⟩
 cases e with
 | normal=>
  simp only [XR] at hX2;subst hX2
  exact ret _ (.inl rfl) hQ2 (StepsIn.trans harr2 (.one (qAX _) (stepR_end rfl)))
 | ret=>
  simp only [XR] at hX2;subst hX2
  obtain⟨todo,hs⟩:=harr2.1 rfl
  exact ret _ (.inr ⟨todo,rfl⟩) hQ2 hs
 | panic ch=>
  simp only [XR] at hX2
  obtain⟨ch',rfl,hp⟩:=hX2
  obtain⟨todo,hs⟩:=harr2
  exact⟨.panicked ch',m,w2,_,qHk hdata hQ2 ⟨ch',rfl,hp⟩ hmr2 hL2,by rw [hc];exact hs,rfl,rfl,rfl,hdf,fn,hf⟩
 | exit i=>exact hQ2.elim
 | goto i=>exact hQ2.elim
end
end Go.Proofs.YtohfoaplnjcihaaGreatDoor.Y
namespace Go.Proofs.YtohfoaplnjcihaaGreatDoor.Y
open Go
section
variable {C:Cx}
theorem HoldsD.useT {g:FuncId} {args0 args:List AV} {n0:Nat} {L0:List (Nat × AObj)} {H:Hp} {Q0:AE->Hp->Prop} {Q1:AE->Md->Hp->Prop} (h:HoldsD C g args0 .ret ⟨n0,L0⟩ fun e u H'=>u=.ret/\Q0 e H') (fs:List Nat) (ps:List (Nat × Nat))
  (hb:(qA5 H.l fs && (List.range n0).all (fun n=>Nat.blt (look ps n) H.next) && qIq (qBk 0 ps n0 H.next) [] L0)=true)
  (hH:qSE (qBk 0 ps n0 H.next) [] (marks H.l fs) 0 L0) (hA0:qFu (qBk 0 ps n0 H.next) [] (marks H.l fs) args args0)
  (hQ1:∀ e0 H0',Q0 e0 H0'->qFP H0'.l=true/\∃ e H2,qSk (qBk 0 ps n0 H.next) e0=e/\mrg (qBk 0 ps n0 H.next) n0 L0 (H.mrk fs) H0'=H2/\Q1 e .ret H2):HoldsD C g args .ret H Q1:=by
 have hQ:∀ e0 H0',Q0 e0 H0'->qFP H0'.l=true/\(fun e H2=>Q1 e .ret H2) (qSk (qBk 0 ps n0 H.next) e0) (mrg (qBk 0 ps n0 H.next) n0 L0 (H.mrk fs) H0'):=fun e0 H0' hq=>by
  obtain⟨h1,e,H2,rfl,rfl,h2⟩:=hQ1 e0 H0' hq
  exact⟨h1,h2⟩
 obtain⟨Q,hQd⟩:∃ Q:AE->Hp->Prop,Q=fun e H2=>Q1 e .ret H2:=⟨_,rfl⟩
 rw [<- hQd] at hQ
 intro Γ0 w args' m hR0 hA hM
 simp only [Bool.and_eq_true] at hb
 obtain⟨⟨b1,b2⟩,b3⟩:=hb
 obtain⟨Γ,e1,hLm⟩:=hR0.mark b1
 have hR:=hLm.1
 have hA:=qBD (hLm.le hR0) _ _ hA
 have hlt:∀ n,n<n0->qBk 0 ps n0 H.next n<H.next:=by
  intro n hn
  unfold qBk
  rw [show Nat.blt n 0=false from rfl]
  rw [show Nat.blt n n0=true by simpa using hn]
  have:=List.all_eq_true.1 b2 n (List.mem_range.2 hn)
  simpa using this
 have hge:∀ n,n0<=n->qBk 0 ps n0 H.next n=n - n0+H.next:=fun n hn=>qE3 (Nat.zero_le _) hn
 have hsee:=R.see (H1:=⟨n0,L0⟩) (ρ:=qBk 0 ps n0 H.next) (ni:=[]) (n0:=0) hR hH (qDC b3) rfl (fun n h=>by omega) (Nat.zero_le _) (fun n h=>by rw [hge n h];show H.next<=_;omega)
 have hA1:=qBK hR _ _ _ hA0 hA
 have key:∀ e w',Post C (Γ.see (qBk 0 ps n0 H.next) []) ⟨n0,L0⟩ w Q0 e w'->Post C Γ (H.mrk fs) w Q e w':=by
  rintro e' w' ⟨e0,H0',Γc,h1,h2,hL⟩
  obtain⟨hnd,hq⟩:=hQ e0 H0' h1
  obtain⟨h3,h4,h5,h6⟩:=hL
  simp only at h4 h5
  let Γ':Gm:=⟨fun m=>if m<H.next then Γ.nm m else Γc.nm (m - H.next+n0),Γc.fz⟩
  have hnm:∀ n,Γ'.nm (qBk 0 ps n0 H.next n)=Γc.nm n:=by
   intro n
   by_cases hn:n<n0
   ·simp only [Γ',if_pos (hlt n hn)]
    rw [h4 n hn]
    rfl
   ·have hn':=hge n (by omega)
    simp only [Γ']
    rw [hn',if_neg (by omega)]
    congr 1
    omega
  have hle:Γ.le Γ':=by
   refine⟨fun n q hq=>?_,h6.fz⟩
   have hn:n<H.next:=by
    rcases Nat.lt_or_ge n H.next with h1 | h1
    ·exact h1
    ·rw [hR.fresh n h1] at hq;cases hq
   simp only [Γ',if_pos hn]
   exact hq
  have hOwn0:∀ k,Own (Γ.see (qBk 0 ps n0 H.next) []) ⟨n0,L0⟩ k->Own Γ (H.mrk fs) k:=fun k hk=>by
   rcases hsee.2.2.2.prov k hk with h1 | h1
   ·exact absurd (Own.blk_lt hsee.1 hk) (by omega)
   ·exact h1
  -- an owned block of the callee's is not one of the frame
  have hframe:∀ m o q,qPN (qBk 0 ps n0 H.next) L0 m=false->qAk (H.mrk fs).l m=some o->Γ.nm m=some q->q.nl=false->q.blk<w.heap.size/\¬ Own (Γ.see (qBk 0 ps n0 H.next) []) ⟨n0,L0⟩ q.blk:=by
   intro m o q hno hm hq hnl
   obtain⟨q',e1,e2⟩:=hR.objs m o hm
   rw [hq] at e1;injection e1 with e1;subst e1
   refine⟨e2.blk_lt hnl,?_⟩
   rintro⟨n,o0,q0,k1,k2,k3,k4,k5⟩
   have hso:=qGU hH k1
   unfold qWA at hso
   simp only [qCG] at hso
   obtain⟨oc,j1,j2,j3,j4⟩:=hso
   have hne:=qLU hno (qGI k1)
   exact hR.apart _ oc m o q0 q j1 hm hne k3 hq (by rw [j3];exact k2) k4 hnl k5
  have hwh:∀ m o,qAk (mrg (qBk 0 ps n0 H.next) n0 L0 (H.mrk fs) H0').l m=some o->(∃ n o',m=qBk 0 ps n0 H.next n/\qAk H0'.l n=some o'/\isCells o'.c=true/\o=qSi (qBk 0 ps n0 H.next) o')∨(qPN (qBk 0 ps n0 H.next) L0 m=false/\qAk (H.mrk fs).l m=some o):=by
   intro m o hm
   rcases qFn hm with h1 | h1
   ·obtain⟨n,o',k1,k2,k3,k4⟩:=qKN h1
    exact .inl ⟨n,o',k3,qGq hnd k1,k2,k4⟩
   ·exact .inr (qLQ h1)
  have hfrq:∀ m o q,qPN (qBk 0 ps n0 H.next) L0 m=false->qAk (H.mrk fs).l m=some o->Γ'.nm m=some q->Γ.nm m=some q:=by
   intro m o q _ hm hq
   obtain⟨q',e1,_⟩:=hR.objs m o hm
   have:=hle.nm _ _ e1
   rw [hq] at this
   rw [this];exact e1
  -- a block of the callee's that the heap owns,or that is not written any more,is none of an owned object of the frame
  have hblk:∀ n o' qc m o q,qAk H0'.l n=some o'->Γc.nm n=some qc->qc.nl=false->qPN (qBk 0 ps n0 H.next) L0 m=false->qAk (H.mrk fs).l m=some o->Γ.nm m=some q->q.nl=false->(o'.fr=false∨o.fr=false)->isCells o'.c=true->qc.blk ≠ q.blk:=by
   intro n o' qc m o q k1 k2 k3 k4 k5 k6 k7 k8 k9 e
   obtain⟨l1,l2⟩:=hframe m o q k4 k5 k6 k7
   cases hfr:o'.fr with
   | false=>
    rcases h6.prov qc.blk ⟨n,o',qc,k1,hfr,k2,k3,rfl⟩ with c1 | c1
    ·omega
    ·exact l2 (e ▸ c1)
   | true=>
    have hof:o.fr=false:=by
     rcases k8 with k8 | k8
     ·rw [hfr] at k8;cases k8
     ·exact k8
    obtain⟨qx,x1,x2⟩:=h3.objs n o' k1
    rw [k2] at x1;injection x1 with x1;subst x1
    rcases (qAP k9).1 x2 with ⟨y,_⟩ | ⟨_,us,rr,z,g1,g2,g3,g3',g4,g5,g6,g7,g8⟩
    ·rw [k3] at y;cases y
    ·rcases h6.fzprov _ _ (g8 hfr) with c1 | c1 | c1
     ·have c1':Γ.fz qc.blk=some _:=c1
      rw [e,hR.own m o q k5 hof k6 k7] at c1'
      cases c1'
     ·omega
     ·exact l2 (e ▸ c1)
  refine⟨_,_,Γ',hq,qUR hnm rfl h2,⟨h3.glob,fun n hn=>?_,h3.fzok,fun m o hm=>?_,fun m o q hm hf hq1 hnl=>?_,fun m o m' o' q q' hm hm' hne hq1 hq2 hf hnl hnl'=>?_⟩,fun m hm=>by have hm:m<H.next:=hm;simp only [Γ',if_pos hm],by show H.next<=H.next+_;omega,⟨h6.os,h6.tape,h6.output,h6.size,fun k hk hno=>h6.kept k hk (fun e=>hno (hOwn0 k e)),fun k hk=>?_,h6.fz,fun k a hk=>?_⟩⟩
  ·have hn:H.next+(H0'.next - n0)<=n:=hn
   simp only [Γ',if_neg (show ¬ n<H.next by omega)]
   exact h3.fresh _ (by omega)
  ·rcases hwh m o hm with ⟨n,o',rfl,k2,k3,rfl⟩ | ⟨k1,k2⟩
   ·obtain⟨q,x1,x2⟩:=h3.objs n o' k2
    exact⟨q,by rw [hnm];exact x1,qJA hnm rfl k3 x2⟩
   ·obtain⟨q,x1,x2⟩:=hR.objs m o k2
    refine⟨q,hle.nm _ _ x1,x2.ext hle fun hnl=>?_⟩
    obtain⟨l1,l2⟩:=hframe m o q k1 k2 x1 hnl
    exact h6.kept _ l1 l2
  ·rcases hwh m o hm with ⟨n,o',rfl,k2,k3,rfl⟩ | ⟨k1,k2⟩
   ·rw [hnm] at hq1
    exact h3.own n o' q k2 hf hq1 hnl
   ·have hq2:=hfrq m o q k1 k2 hq1
    have h0:=hR.own m o q k2 hf hq2 hnl
    obtain⟨l1,l2⟩:=hframe m o q k1 k2 hq2 hnl
    cases hx:Γc.fz q.blk with
    | none=>rfl
    | some a=>
     rcases h6.fzprov _ _ hx with c1 | c1 | c1
     ·have c1':Γ.fz q.blk=some _:=c1
      rw [h0] at c1';cases c1'
     ·omega
     ·exact(l2 c1).elim
  ·rcases hwh m o hm with ⟨n,o1,rfl,k2,k3,rfl⟩ | ⟨k1,k2⟩
   ·rw [hnm] at hq1
    rcases hwh m' o' hm' with ⟨n',o2,rfl,j2,j3,rfl⟩ | ⟨j1,j2⟩
    ·rw [hnm] at hq2
     exact h3.apart n o1 n' o2 q q' k2 j2 (fun e=>hne (by rw [e])) hq1 hq2 hf hnl hnl'
    ·exact hblk n o1 q m' o' q' k2 hq1 hnl j1 j2 (hfrq _ _ _ j1 j2 hq2) hnl' (.inl hf) k3
   ·have hq1':=hfrq m o q k1 k2 hq1
    rcases hwh m' o' hm' with ⟨n',o2,rfl,j2,j3,rfl⟩ | ⟨j1,j2⟩
    ·rw [hnm] at hq2
     exact Ne.symm (hblk n' o2 q' m o q j2 hq2 hnl' k1 k2 hq1' hnl (.inr hf) j3)
    ·exact hR.apart m o m' o' q q' k2 j2 hne hq1' (hfrq _ _ _ j1 j2 hq2) hf hnl hnl'
  ·obtain⟨m,o,q,k1,k2,k3,k4,rfl⟩:=hk
   rcases hwh m o k1 with ⟨n,o1,rfl,j2,j3,rfl⟩ | ⟨j1,j2⟩
   ·rw [hnm] at k3
    rcases h6.prov q.blk ⟨n,o1,q,j2,k2,k3,k4,rfl⟩ with c1 | c1
    ·exact .inl c1
    ·exact .inr (hOwn0 _ c1)
   ·exact .inr ⟨m,o,q,j2,k2,hfrq _ _ _ j1 j2 k3,k4,rfl⟩
  ·rcases h6.fzprov k a hk with c1 | c1 | c1
   ·exact .inl c1
   ·exact .inr (.inl c1)
   ·exact .inr (.inr (hOwn0 _ c1))
 have fin:∀ e w',Post C (Γ.see (qBk 0 ps n0 H.next) []) ⟨n0,L0⟩ w Q0 e w'->Post C Γ0 H w Q e w':=by
  intro e w' hP
  obtain⟨e0,H',Γ',k1,k2,k3⟩:=key e w' hP
  exact⟨e0,H',Γ',k1,k2,hLm.trans (k3.mono hLm.2.2.1)⟩
 have hM:m=.returning:=hM
 subst hM
 obtain⟨h1,h2⟩:=h _ w args' .returning hsee.1 hA1 rfl
 refine⟨h1,h2.mono fun e' m' w' hP=>?_⟩
 obtain⟨e0,u,H',Γ',⟨rfl,k1⟩,k2,k3,k4⟩:=hP
 have k3:m'=.returning:=k3
 subst k3
 obtain⟨e1,H1,Γ1,j1,j2,j3⟩:=fin e' w' ⟨e0,H',Γ',k1,k2,k4⟩
 rw [hQd] at j1
 exact⟨e1, .ret,H1,Γ1,j1,j2,rfl,j3⟩
end
end Go.Proofs.YtohfoaplnjcihaaGreatDoor.Y
namespace Go.Proofs.YtohfoaplnjcihaaGreatDoor
open Go Y
set_option maxRecDepth 100000
set_option maxHeartbeats 4000000
abbrev TWr:TypeId:=108
structure Wst where
 s:List UInt8
 n:Nat
 b:Bool
def Wst.sz (st:Wst):Nat:=st.n+st.s.length
def qNs (st:Wst) (x:List UInt8):Wst:=⟨(st.s++(if st.b then [32] else []))++x,st.n+1,true⟩
def puts (st:Wst) (l:qBb):Wst:=l.foldl qNs st
def qUF (st:Wst):Wst:=⟨st.s++[10],st.n,false⟩
def wt:qBb->Nat
 | []=>0
 | x::l=>x.length+2+wt l
theorem qAN:∀ a b:qBb,wt (a++b)=wt a+wt b
 | [],b=>by simp [wt]
 | x::a,b=>by rw [List.cons_append,wt,wt,qAN a b];omega
theorem qUu (st:Wst) (x:List UInt8):(qNs st x).sz<=st.sz+(x.length+2):=by
 have h3:(if st.b=true then [32] else []:List UInt8).length<=1:=by cases st.b <;> simp
 show st.n+1+((st.s++(if st.b then [32] else []))++x).length<=st.n+st.s.length+_
 rw [List.length_append,List.length_append];omega
theorem qSs (st:Wst):puts st []=st:=rfl
theorem qGC (st:Wst) (x:List UInt8) (l:qBb):puts st (x::l)=puts (qNs st x) l:=rfl
theorem qAE (st:Wst) (a b:qBb):puts st (a++b)=puts (puts st a) b:=List.foldl_append
theorem qAJ:∀ (l:qBb) (st:Wst),(puts st l).sz<=st.sz+wt l
 | [],st=>Nat.le_refl _
 | x::l,st=>by
  have h1:=qAJ l (qNs st x)
  have h2:=qUu st x
  rw [qGC,wt];omega
theorem qNr:∀ (l:qBb) (st:Wst),(puts st l).s=st.s++spW st.b l/\(puts st l).n=st.n+l.length/\(puts st l).b=(st.b || decide (l ≠ []))
 | [],st=>by simp [qSs,spW]
 | x::l,st=>by
  obtain⟨h1,h2,h3⟩:=qNr l (qNs st x)
  refine⟨?_,?_,?_⟩
  ·rw [qGC,h1,spW];simp [qNs]
  ·rw [qGC,h2];simp [qNs];omega
  ·rw [qGC,h3];simp [qNs]
def wOu (u:Bool) (k:Nat) (st:Wst):AObj:=⟨TWr,false, .bx [au u, .sl k 1 0 st.s.length, .p (i64 st.n), .p (.bool st.b)]⟩
abbrev wO (k:Nat) (st:Wst):AObj:=⟨TWr,false, .bx [.ptr 0 0 0, .sl k 1 0 st.s.length, .p (i64 st.n), .p (.bool st.b)]⟩
def bO (s:List UInt8):AObj:=⟨5,false, .pu (s.map ub)⟩
abbrev wH (u:Bool) (st:Wst):Hp:=⟨2,[(1,bO st.s),(0,wOu u 1 st)]⟩
abbrev wH' (st:Wst):Hp:=⟨3,[(2,bO st.s),(0,wO 2 st)]⟩
theorem qWo:liesAt cx.P cx.P.depth TWr 1 0 TB 1=true:=by kernel_rfl
theorem qW7 (cs:List AV) (lk:Nat->Option AObj) (h:lk 0=some ⟨TWr,false, .bx cs⟩):qH5 cx.P 214 104 (.ptr 0 0 0) lk=.val (.ptr 0 0 0):=by
 have h1:cx.P.underlying 214=some .unsafePointer:=rfl
 have h2:cx.P.underlying 104=some (.pointer TB):=rfl
 obtain⟨z,h3⟩:∃ z,qDH cx.P TB=some (z+1):=⟨_,rfl⟩
 unfold qH5
 rw [h1,h2]
 simp only []
 rw [h,h3]
 simp [qWo]
theorem qRp (u:Bool) (v a b:AV):HoldsG cx 108 [.ptr 0 0 0] ⟨2,[(0,⟨TWr,false, .bx [au u,v,a,b]⟩)]⟩ fun e H'=>e=.returned und/\H'=⟨2,[(0,⟨TWr,false, .bx [.ptr 0 0 0,v,a,b]⟩)]⟩:=by
 refine qAz Tryz.func108 rfl rfl rfl ?_
 cases u
 ·refine qJP ?_
  conv=>whnf
  generalize hz:pop cx.P (.convert _ _ _) _ _=z
  rw [show z=.val (.ptr 0 0 0) from hz.symm.trans (qW7 [.p .nilp,v,a,b] (qAk [(0,⟨TWr,false, .bx [.p .nilp,v,a,b]⟩)]) rfl)]
  exact⟨rfl,rfl⟩
 ·exact⟨rfl,rfl⟩
def wB (st:Wst) (x:List UInt8):Wst:=⟨st.s++x,st.n,st.b⟩
theorem qNA (u:Bool) (st:Wst) (b:UInt8) (hx:st.sz<=100000000):HoldsG cx 73 [.ptr 0 0 0, .p (u8 b)] (wH u st) fun e H'=>e=.returned (.p .nilIface)/\H'=wH' (wB st [b]):=by
 obtain⟨s,n,g⟩:=st
 have hx:n+s.length<=100000000:=hx
 refine qAA Tryz.func73 rfl rfl rfl ?_
 refine(qRp u (.sl 1 1 0 s.length) (.p (i64 n)) (.p (.bool g))).useE [] [] rfl ?_ ?_ ?_
 ·cases u <;> (exact sk)
 ·(exact sk)
 ·refine⟨by show 0+1<=_;simp,[ub b],rfl,?_⟩
  refine⟨by show 0+s.length<=(s.map ub).length;simp,s.map ub,qP1 s,by show(s.length+1) * 1<=_;omega,(s++[b]).map ub,by simp,?_⟩
  exact⟨[],[(2,3)],[], .returned (.p .nilIface),⟨3,[(2,bO (s++[b])),(0,⟨TWr,false, .bx [.ptr 0 0 0, .sl 2 1 0 (s.length+1), .p (i64 n), .p (.bool g)]⟩)]⟩,rfl,⟨_,rfl,rfl⟩,sk,rfl,by simp [wH',wB,wO]⟩
theorem qNX (u:Bool) (st:Wst) (x:List UInt8) (hx:st.sz<=100000000) (hs:x.length<=100000000):HoldsG cx 64 [.ptr 0 0 0,vS x] (wH u st) fun e H'=>e=.returned (.tup [.p (i64 x.length), .p .nilIface])/\H'=wH' (wB st x):=by
 obtain⟨s,n,g⟩:=st
 have hx:n+s.length<=100000000:=hx
 refine qAA Tryz.func64 rfl rfl rfl ?_
 refine(qRp u (.sl 1 1 0 s.length) (.p (i64 n)) (.p (.bool g))).useE [] [] rfl ?_ ?_ ?_
 ·cases u <;> (exact sk)
 ·(exact sk)
 ·refine⟨by show 0+s.length<=(s.map ub).length;simp,s.map ub,qP1 s,by show(s.length+x.length) * 1<=_;omega,(s++x).map ub,by simp,?_⟩
  exact⟨[],[(2,2)],[], .returned (.tup [.p (i64 x.length), .p .nilIface]),⟨3,[(2,bO (s++x)),(0,⟨TWr,false, .bx [.ptr 0 0 0, .sl 2 1 0 (s.length+x.length), .p (i64 n), .p (.bool g)]⟩)]⟩,rfl,⟨_,rfl,_,rfl,sk⟩,sk,rfl,by simp [wH',wB,wO]⟩
def WQ (st:Wst) (e:AE) (H':Hp):Prop:=e=.returned und/\H'=wH' st
theorem qX6 (st:Wst) (hx:st.sz<=100000000):HoldsG cx 43 [.ptr 0 0 0] (wH true st) (WQ (qUF st)):=by
 refine qAA Tryz.func43 rfl rfl rfl ?_
 refine(qNA true st 10 hx).holds.useT [] [] rfl (sk) (sk) fun e0 H0 hq=>?_
 obtain⟨rfl,rfl⟩:=hq
 refine⟨rfl,_,⟨3,[(2,bO (st.s++[10])),(0,wO 2 (wB st [10]))]⟩,rfl,rfl,?_⟩
 exact⟨[],[],[], .returned und,wH' (qUF st),rfl,sk,sk,rfl,rfl⟩
theorem qTm {l:qBb} {k:Nat} (h:k<l.length):(l.map PV.str)[k]?=some (.str (l.getD k [])):=by
 rw [List.getElem?_map,List.getElem?_eq_getElem h,List.getD_eq_getElem?_getD,List.getElem?_eq_getElem h];rfl
theorem qPl {l:qBb} {k:Nat} (h:k<l.length):wt (l.take k)+(l.getD k []).length+2<=wt l:=by
 have e:l=l.take k++l.getD k []::l.drop (k+1):=by
  rw [List.getD_eq_getElem?_getD,List.getElem?_eq_getElem h]
  show l=l.take k++l[k]::l.drop (k+1)
  rw [<- List.drop_eq_getElem_cons h,List.take_append_drop]
 conv=>rhs;rw [e]
 rw [qAN,wt];omega
theorem qRB:∀ l:qBb,l.length<=wt l
 | []=>Nat.le_refl _
 | x::l=>by have:=qRB l;rw [wt,List.length_cons];omega
def sU (l:qBb):AObj:=⟨qYC,false, .pu (l.map PV.str)⟩
theorem qA3 (u:Bool) (st:Wst) (l:qBb) (h0:0<l.length) (hb:st.sz+wt l<=100000000):HoldsG cx 70 [.ptr 0 0 0, .sl 2 1 0 l.length] ⟨3,[(2,sU l),(1,bO st.s),(0,wOu u 1 st)]⟩ fun e H'=>e=.returned und/\H'=⟨4,[(3,bO (puts st l).s),(0,wO 3 (puts st l))]⟩:=by
 refine qAA Tryz.func70 rfl rfl rfl ?_
 refine⟨Wst × Nat × Bool,fun x=>[(0, .ptr 0 0 0),(6, .sl 2 1 0 l.length),(7, .p (i64 l.length)),(8, .p (i64 x.2.1))],fun x=>⟨4,[(2,sU l),(3,bO x.1.s),(0,wOu x.2.2 3 x.1)]⟩,fun x=>x.2.1<=l.length/\(0<x.2.1->x.2.2=true)/\x.1=puts st (l.take x.2.1),fun x=>l.length - x.2.1,?_,?_⟩
 ·exact⟨(st,0,u),⟨by simp,fun h=>absurd h (by simp),rfl⟩,qAB [] [(3,1)] [] rfl (sk) (by cases u <;> (exact sk)) rfl⟩
 rintro⟨⟨s,n,b⟩,k,u⟩ ⟨k1,k2,k3⟩
 simp only [] at k1 k2 k3
 have hsz:=qAJ (l.take k) st
 rw [<- k3] at hsz
 have hsz:n+s.length<=st.sz+wt (l.take k):=hsz
 by_cases hk:k<l.length
 rotate_left
 ·have hu:=k2 (by omega)
  subst hu
  have e:puts st l=⟨s,n,b⟩:=by rw [k3,qBg (by omega)]
  refine And.intro (fun h=>absurd (show(k:Int)<(l.length:Nat) from h) (by omega)) (fun _=>?_)
  rw [e]
  exact⟨[],[(3,3)],[], .returned und,⟨4,[(3,bO s),(0,wO 3 ⟨s,n,b⟩)]⟩,rfl,sk,sk,rfl,rfl⟩
 have hw:=qPl hk
 have hlw:=qRB l
 have e:puts st (l.take (k+1))=qNs ⟨s,n,b⟩ (l.getD k []):=by rw [qAY [] hk,qAE,<- k3];rfl
 obtain⟨x,hx⟩:∃ x,x=l.getD k []:=⟨_,rfl⟩
 have hc:(l.map PV.str)[0+((k:Nat):Int).toNat]?=some (.str (l.getD k [])):=by rw [Int.toNat_natCast,Nat.zero_add];exact qTm hk
 rw [<- hx] at e hw hc
 clear k2 k3
 cases b
 ·refine And.intro (fun _=>?_) (fun h=>absurd (show(k:Int)<(l.length:Nat) by omega) h)
  refine⟨by omega,_,⟨.str x,hc,rfl⟩,?_⟩
  refine(qNX u ⟨s,n,true⟩ x (by show n+s.length<=_;omega) (by omega)).holds.useT [] [(1,3)] rfl (by cases u <;> (exact sk)) (sk) fun e0 H0 hq=>?_
  obtain⟨rfl,rfl⟩:=hq
  refine⟨rfl,_,⟨5,[(4,bO (s++x)),(0,wO 4 (wB ⟨s,n,true⟩ x)),(2,sU l)]⟩,rfl,rfl,?_⟩
  refine⟨((n:Nat):Int)+1,w6z,?_⟩
  refine⟨((k:Nat):Int)+1,w6z,?_⟩
  exact⟨(⟨s++x,n+1,true⟩,k+1,true),⟨hk,fun _=>rfl,by rw [e];simp [qNs]⟩,qAB [] [(3,4)] [] rfl (sk) (sk) rfl,by show l.length - (k+1)<l.length - k;omega⟩
 ·refine And.intro (fun _=>?_) (fun h=>absurd (show(k:Int)<(l.length:Nat) by omega) h)
  refine⟨by omega,_,⟨.str x,hc,rfl⟩,?_⟩
  refine(qNA u ⟨s,n,true⟩ 32 (by show n+s.length<=_;omega)).holds.useT [] [(1,3)] rfl (by cases u <;> (exact sk)) (sk) fun e0 H0 hq=>?_
  obtain⟨rfl,rfl⟩:=hq
  refine⟨rfl,_,⟨5,[(4,bO (s++[32])),(0,wO 4 (wB ⟨s,n,true⟩ [32])),(2,sU l)]⟩,rfl,rfl,?_⟩
  refine(qNX true ⟨s++[32],n,true⟩ x (by show n+(s++[32]).length<=_;simp;omega) (by omega)).holds.useT [] [(1,4)] rfl (sk) (sk) fun e0 H0 hq=>?_
  obtain⟨rfl,rfl⟩:=hq
  refine⟨rfl,_,⟨6,[(5,bO ((s++[32])++x)),(0,wO 5 (wB ⟨s++[32],n,true⟩ x)),(2,sU l)]⟩,rfl,rfl,?_⟩
  refine⟨((n:Nat):Int)+1,w6z,?_⟩
  refine⟨((k:Nat):Int)+1,w6z,?_⟩
  exact⟨(⟨(s++[32])++x,n+1,true⟩,k+1,true),⟨hk,fun _=>rfl,by rw [e];simp [qNs]⟩,qAB [] [(3,5)] [] rfl (sk) (sk) rfl,by show l.length - (k+1)<l.length - k;omega⟩
theorem qTy (u:Bool) (st:Wst) (l:qBb) (h0:0<l.length) (hb:st.sz+wt l<=100000000):HoldsD cx 70 [.ptr 0 0 0, .sl 2 1 0 l.length] .ret ⟨3,[(2,sU l),(1,bO st.s),(0,wOu u 1 st)]⟩ fun e m H'=>m=.ret/\(e=.returned und/\H'=⟨4,[(3,bO (puts st l).s),(0,wO 3 (puts st l))]⟩):=by
 refine qLV Tryz.func70 rfl rfl rfl ?_
 refine⟨Wst × Nat × Bool,fun x=>[(0, .ptr 0 0 0),(6, .sl 2 1 0 l.length),(7, .p (i64 l.length)),(8, .p (i64 x.2.1))],fun x=>⟨4,[(2,sU l),(3,bO x.1.s),(0,wOu x.2.2 3 x.1)]⟩,fun x=>x.2.1<=l.length/\(0<x.2.1->x.2.2=true)/\x.1=puts st (l.take x.2.1),fun x=>l.length - x.2.1,?_,?_⟩
 ·exact⟨(st,0,u),⟨by simp,fun h=>absurd h (by simp),rfl⟩,qAB [] [(3,1)] [] rfl (sk) (by cases u <;> (exact sk)) rfl⟩
 rintro⟨⟨s,n,b⟩,k,u⟩ ⟨k1,k2,k3⟩
 simp only [] at k1 k2 k3
 have hsz:=qAJ (l.take k) st
 rw [<- k3] at hsz
 have hsz:n+s.length<=st.sz+wt (l.take k):=hsz
 by_cases hk:k<l.length
 rotate_left
 ·have hu:=k2 (by omega)
  subst hu
  have e:puts st l=⟨s,n,b⟩:=by rw [k3,qBg (by omega)]
  refine And.intro (fun h=>absurd (show(k:Int)<(l.length:Nat) from h) (by omega)) (fun _=>?_)
  rw [e]
  exact⟨[],[(3,3)],[], .returned und,⟨4,[(3,bO s),(0,wO 3 ⟨s,n,b⟩)]⟩,rfl,sk,sk,rfl,rfl,rfl⟩
 have hw:=qPl hk
 have hlw:=qRB l
 have e:puts st (l.take (k+1))=qNs ⟨s,n,b⟩ (l.getD k []):=by rw [qAY [] hk,qAE,<- k3];rfl
 obtain⟨x,hx⟩:∃ x,x=l.getD k []:=⟨_,rfl⟩
 have hc:(l.map PV.str)[0+((k:Nat):Int).toNat]?=some (.str (l.getD k [])):=by rw [Int.toNat_natCast,Nat.zero_add];exact qTm hk
 rw [<- hx] at e hw hc
 clear k2 k3
 cases b
 ·refine And.intro (fun _=>?_) (fun h=>absurd (show(k:Int)<(l.length:Nat) by omega) h)
  refine⟨by omega,_,⟨.str x,hc,rfl⟩,?_⟩
  refine(qNX u ⟨s,n,true⟩ x (by show n+s.length<=_;omega) (by omega)).holds.useT [] [(1,3)] rfl (by cases u <;> (exact sk)) (sk) fun e0 H0 hq=>?_
  obtain⟨rfl,rfl⟩:=hq
  refine⟨rfl,_,⟨5,[(4,bO (s++x)),(0,wO 4 (wB ⟨s,n,true⟩ x)),(2,sU l)]⟩,rfl,rfl,?_⟩
  refine⟨((n:Nat):Int)+1,w6z,?_⟩
  refine⟨((k:Nat):Int)+1,w6z,?_⟩
  exact⟨(⟨s++x,n+1,true⟩,k+1,true),⟨hk,fun _=>rfl,by rw [e];simp [qNs]⟩,qAB [] [(3,4)] [] rfl (sk) (sk) rfl,by show l.length - (k+1)<l.length - k;omega⟩
 ·refine And.intro (fun _=>?_) (fun h=>absurd (show(k:Int)<(l.length:Nat) by omega) h)
  refine⟨by omega,_,⟨.str x,hc,rfl⟩,?_⟩
  refine(qNA u ⟨s,n,true⟩ 32 (by show n+s.length<=_;omega)).holds.useT [] [(1,3)] rfl (by cases u <;> (exact sk)) (sk) fun e0 H0 hq=>?_
  obtain⟨rfl,rfl⟩:=hq
  refine⟨rfl,_,⟨5,[(4,bO (s++[32])),(0,wO 4 (wB ⟨s,n,true⟩ [32])),(2,sU l)]⟩,rfl,rfl,?_⟩
  refine(qNX true ⟨s++[32],n,true⟩ x (by show n+(s++[32]).length<=_;simp;omega) (by omega)).holds.useT [] [(1,4)] rfl (sk) (sk) fun e0 H0 hq=>?_
  obtain⟨rfl,rfl⟩:=hq
  refine⟨rfl,_,⟨6,[(5,bO ((s++[32])++x)),(0,wO 5 (wB ⟨s++[32],n,true⟩ x)),(2,sU l)]⟩,rfl,rfl,?_⟩
  refine⟨((n:Nat):Int)+1,w6z,?_⟩
  refine⟨((k:Nat):Int)+1,w6z,?_⟩
  exact⟨(⟨(s++[32])++x,n+1,true⟩,k+1,true),⟨hk,fun _=>rfl,by rw [e];simp [qNs]⟩,qAB [] [(3,5)] [] rfl (sk) (sk) rfl,by show l.length - (k+1)<l.length - k;omega⟩
end Go.Proofs.YtohfoaplnjcihaaGreatDoor
