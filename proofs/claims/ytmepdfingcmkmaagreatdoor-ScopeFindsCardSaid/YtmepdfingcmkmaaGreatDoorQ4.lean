/- Part 4 of the proof: Kv Kw Kx Ky Ga Ja Jb Jc Jd Je Jf Jg Ua Ub Uc Ud Ue Uf Ug Uh Tc Td Ui Lo Lp Lq Lr Lv Lw Pa Pb Oa Ob Oc Od Oe Of Og Ra Uj Uk Ul Um Wa Wb -/
import Derived.Test.YtmepdfingcmkmaaGreatDoorQ3
namespace Go.Proofs.YtmepdfingcmkmaaGreatDoor
open Go Y
set_option maxRecDepth 100000
set_option maxHeartbeats 40000000
theorem qDy (n:Int):Pure cx 89 [i64 n] (·=.ret [.bool (qB0 n)]):=by
 refine qAB Tryz.func89 rfl rfl rfl ?_
 refine QAD (fun h1=>?_) (fun h1=>?_)
 ·have h1:(0:Int)<=n:=h1
  refine QAD (fun h2=>?_) (fun h2=>?_)
  ·have h2:n<=9999:=h2
   exact qAF _ rfl rfl (qAO (by simp [qB0,h1,h2]))
  ·have h2:¬ n<=9999:=h2
   exact qAF _ rfl rfl (qAO (by simp [qB0,h2]))
 ·have h1:¬ (0:Int)<=n:=h1
  exact qAF _ rfl rfl (qAO (by simp [qB0,h1]))
theorem qSH (r:Rf) (hr:BigR r):Pure cx 113 [r.pv] (·=.ret [.bool (qBg r)]):=by
 refine qAB Tryz.func113 rfl rfl rfl ?_
 have hN:=qI9 r.name hr.name
 by_cases n1:qAk r.name=true
 rotate_left
 ·rw [Bool.not_eq_true] at n1
  rw [n1] at hN
  refine hN.eq rfl ?_
  exact qAF _ rfl rfl (qAO (by rw [qBg,n1];rfl))
 rw [n1] at hN
 refine hN.eq rfl ?_
 have hP:=qI9 r.plate hr.plate
 have hA:=qDy r.n
 refine QAD (fun h1=>?_) (fun h1=>?_)
 ·have h1:r.mode=0:=h1
  refine QAD (fun h2=>?_) (fun h2=>?_)
  ·have h2:r.plate=[]:=h2
   refine QAD (fun h3=>?_) (fun h3=>?_)
   ·have h3:r.n=0:=h3
    exact qAF _ rfl rfl (qAO (by simp [qBg,n1,h1,h2,h3]))
   ·have h3:¬ r.n=0:=h3
    exact qAF _ rfl rfl (qAO (by simp [qBg,n1,h1,h2,h3]))
  ·have h2:¬ r.plate=[]:=h2
   exact qAF _ rfl rfl (qAO (by simp [qBg,n1,h1,h2]))
 have h1:¬ r.mode=0:=h1
 refine QAD (fun h4=>?_) (fun h4=>?_)
 ·have h4:r.mode=3:=h4
  refine QAD (fun h2=>?_) (fun h2=>?_)
  ·have h2:r.plate=[]:=h2
   refine QAD (fun h3=>?_) (fun h3=>?_)
   ·have h3:r.n=0:=h3
    exact qAF _ rfl rfl (qAO (by simp [qBg,n1,h4,h2,h3]))
   ·have h3:¬ r.n=0:=h3
    exact qAF _ rfl rfl (qAO (by simp [qBg,n1,h4,h2,h3]))
  ·have h2:¬ r.plate=[]:=h2
   exact qAF _ rfl rfl (qAO (by simp [qBg,n1,h4,h2]))
 have h4:¬ r.mode=3:=h4
 refine QAD (fun h5=>?_) (fun h5=>?_)
 ·have h5:r.mode=1:=h5
  by_cases n2:qAk r.plate=true
  ·rw [n2] at hP
   refine hP.eq rfl ?_
   refine hA.eq rfl ?_
   exact qAF _ rfl rfl (qAO (by simp [qBg,n1,n2,h5]))
  ·rw [Bool.not_eq_true] at n2
   rw [n2] at hP
   refine hP.eq rfl ?_
   exact qAF _ rfl rfl (qAO (by simp [qBg,n1,n2,h5]))
 have h5:¬ r.mode=1:=h5
 refine QAD (fun h6=>?_) (fun h6=>?_)
 ·have h6:r.mode=2:=h6
  refine QAD (fun h2=>?_) (fun h2=>?_)
  ·have h2:r.plate=[]:=h2
   refine hA.eq rfl ?_
   exact qAF _ rfl rfl (qAO (by simp [qBg,n1,h6,h2]))
  ·have h2:¬ r.plate=[]:=h2
   exact qAF _ rfl rfl (qAO (by simp [qBg,n1,h6,h2]))
 have h6:¬ r.mode=2:=h6
 exact qAF _ rfl rfl (qAO (by simp [qBg,h1,h4,h5,h6]))
theorem qS4 (op n rel val:Int) (r:Rf) (st:List Int) (ar:List Cd) (hr:BigR r) (hs:st.length<=9223372036854775807):Pure cx 144 [(Cd.mk op n rel val r st ar).pv] (·=.ret [.bool (qAT op n rel val r st)]):=by
 refine qAB Tryz.func144 rfl rfl rfl ?_
 have hRf:=qSH r hr
 have hNn:=qDy n
 have hNv:=qDy val
 have hm:(st.map i64).length=st.length:=List.length_map ..
 refine QAD (fun o1=>?_) (fun o1=>?_)
 ·have o1:op=1:=o1
  by_cases r1:qBg r=true
  rotate_left
  ·rw [Bool.not_eq_true] at r1
   rw [r1] at hRf
   refine hRf.eq rfl ?_
   exact qAF _ rfl rfl (qAO (by simp [qAT, *]))
  rw [r1] at hRf
  refine hRf.eq rfl ?_
  by_cases r2:qB0 n=true
  rotate_left
  ·rw [Bool.not_eq_true] at r2
   rw [r2] at hNn
   refine hNn.eq rfl ?_
   exact qAF _ rfl rfl (qAO (by simp [qAT, *]))
  rw [r2] at hNn
  refine hNn.eq rfl ?_
  refine QAD (fun r3=>?_) (fun r3=>?_)
  rotate_left
  ·have r3:¬ rel=0:=r3
   exact qAF _ rfl rfl (qAO (by simp [qAT, *]))
  have r3:rel=0:=r3
  refine QAD (fun r4=>?_) (fun r4=>?_)
  rotate_left
  ·have r4:¬ val=0:=r4
   exact qAF _ rfl rfl (qAO (by simp [qAT, *]))
  have r4:val=0:=r4
  refine QAD (fun r9=>?_) (fun r9=>?_)
  rotate_left
  ·have r9:¬ ((st.map i64).length:Int)=0:=r9
   have r9:¬ st=[]:=fun e=>r9 (by rw [e];rfl)
   exact qAF _ rfl rfl (qAO (by simp [qAT, *]))
  have r9:((st.map i64).length:Int)=0:=r9
  have r9:st=[]:=by rw [List.length_map] at r9;exact List.length_eq_zero_iff.1 (by omega)
  exact qAF _ rfl rfl (qAO (by simp [qAT, *]))
 have o1:¬ op=1:=o1
 refine QAD (fun o2=>?_) (fun o2=>?_)
 ·have o2:op=2:=o2
  by_cases r1:qBg r=true
  rotate_left
  ·rw [Bool.not_eq_true] at r1
   rw [r1] at hRf
   refine hRf.eq rfl ?_
   exact qAF _ rfl rfl (qAO (by simp [qAT, *]))
  rw [r1] at hRf
  refine hRf.eq rfl ?_
  by_cases r2:qB0 n=true
  rotate_left
  ·rw [Bool.not_eq_true] at r2
   rw [r2] at hNn
   refine hNn.eq rfl ?_
   exact qAF _ rfl rfl (qAO (by simp [qAT, *]))
  rw [r2] at hNn
  refine hNn.eq rfl ?_
  refine QAD (fun r3=>?_) (fun r3=>?_)
  rotate_left
  ·have r3:¬ rel=0:=r3
   exact qAF _ rfl rfl (qAO (by simp [qAT, *]))
  have r3:rel=0:=r3
  refine QAD (fun r4=>?_) (fun r4=>?_)
  rotate_left
  ·have r4:¬ val=0:=r4
   exact qAF _ rfl rfl (qAO (by simp [qAT, *]))
  have r4:val=0:=r4
  refine QAD (fun r9=>?_) (fun r9=>?_)
  rotate_left
  ·have r9:¬ ((st.map i64).length:Int)=0:=r9
   have r9:¬ st=[]:=fun e=>r9 (by rw [e];rfl)
   exact qAF _ rfl rfl (qAO (by simp [qAT, *]))
  have r9:((st.map i64).length:Int)=0:=r9
  have r9:st=[]:=by rw [List.length_map] at r9;exact List.length_eq_zero_iff.1 (by omega)
  exact qAF _ rfl rfl (qAO (by simp [qAT, *]))
 have o2:¬ op=2:=o2
 refine QAD (fun o3=>?_) (fun o3=>?_)
 ·have o3:op=3:=o3
  by_cases r1:qBg r=true
  rotate_left
  ·rw [Bool.not_eq_true] at r1
   rw [r1] at hRf
   refine hRf.eq rfl ?_
   exact qAF _ rfl rfl (qAO (by simp [qAT, *]))
  rw [r1] at hRf
  refine hRf.eq rfl ?_
  by_cases r2:qB0 n=true
  rotate_left
  ·rw [Bool.not_eq_true] at r2
   rw [r2] at hNn
   refine hNn.eq rfl ?_
   exact qAF _ rfl rfl (qAO (by simp [qAT, *]))
  rw [r2] at hNn
  refine hNn.eq rfl ?_
  refine QAD (fun r3=>?_) (fun r3=>?_)
  rotate_left
  ·have r3:¬ rel=0:=r3
   exact qAF _ rfl rfl (qAO (by simp [qAT, *]))
  have r3:rel=0:=r3
  refine QAD (fun r4=>?_) (fun r4=>?_)
  rotate_left
  ·have r4:¬ val=0:=r4
   exact qAF _ rfl rfl (qAO (by simp [qAT, *]))
  have r4:val=0:=r4
  refine QAD (fun r9=>?_) (fun r9=>?_)
  rotate_left
  ·have r9:¬ ((st.map i64).length:Int)=0:=r9
   have r9:¬ st=[]:=fun e=>r9 (by rw [e];rfl)
   exact qAF _ rfl rfl (qAO (by simp [qAT, *]))
  have r9:((st.map i64).length:Int)=0:=r9
  have r9:st=[]:=by rw [List.length_map] at r9;exact List.length_eq_zero_iff.1 (by omega)
  exact qAF _ rfl rfl (qAO (by simp [qAT, *]))
 have o3:¬ op=3:=o3
 refine QAD (fun o4=>?_) (fun o4=>?_)
 ·have o4:op=4:=o4
  by_cases r1:qBg r=true
  rotate_left
  ·rw [Bool.not_eq_true] at r1
   rw [r1] at hRf
   refine hRf.eq rfl ?_
   exact qAF _ rfl rfl (qAO (by simp [qAT, *]))
  rw [r1] at hRf
  refine hRf.eq rfl ?_
  by_cases r2:qB0 n=true
  rotate_left
  ·rw [Bool.not_eq_true] at r2
   rw [r2] at hNn
   refine hNn.eq rfl ?_
   exact qAF _ rfl rfl (qAO (by simp [qAT, *]))
  rw [r2] at hNn
  refine hNn.eq rfl ?_
  refine QAD (fun r3=>?_) (fun r3=>?_)
  rotate_left
  ·have r3:¬ rel=0:=r3
   exact qAF _ rfl rfl (qAO (by simp [qAT, *]))
  have r3:rel=0:=r3
  refine QAD (fun r4=>?_) (fun r4=>?_)
  rotate_left
  ·have r4:¬ val=0:=r4
   exact qAF _ rfl rfl (qAO (by simp [qAT, *]))
  have r4:val=0:=r4
  refine QAD (fun r9=>?_) (fun r9=>?_)
  rotate_left
  ·have r9:¬ ((st.map i64).length:Int)=0:=r9
   have r9:¬ st=[]:=fun e=>r9 (by rw [e];rfl)
   exact qAF _ rfl rfl (qAO (by simp [qAT, *]))
  have r9:((st.map i64).length:Int)=0:=r9
  have r9:st=[]:=by rw [List.length_map] at r9;exact List.length_eq_zero_iff.1 (by omega)
  exact qAF _ rfl rfl (qAO (by simp [qAT, *]))
 have o4:¬ op=4:=o4
 refine QAD (fun o5=>?_) (fun o5=>?_)
 rotate_left
 ·have o5:¬ op=5:=o5
  refine QAD (fun o6=>?_) (fun o6=>?_)
  rotate_left
  ·have o6:¬ op=6:=o6
   exact qAF _ rfl rfl (qAO (by simp [qAT, *]))
  have o6:op=6:=o6
  by_cases r1:qBg r=true
  rotate_left
  ·rw [Bool.not_eq_true] at r1
   rw [r1] at hRf
   refine hRf.eq rfl ?_
   exact qAF _ rfl rfl (qAO (by simp [qAT, *]))
  rw [r1] at hRf
  refine hRf.eq rfl ?_
  refine QAD (fun r2=>?_) (fun r2=>?_)
  rotate_left
  ·have r2:¬ r.mode=3:=r2
   exact qAF _ rfl rfl (qAO (by simp [qAT, *]))
  have r2:r.mode=3:=r2
  by_cases r3:qB0 val=true
  rotate_left
  ·rw [Bool.not_eq_true] at r3
   rw [r3] at hNv
   refine hNv.eq rfl ?_
   exact qAF _ rfl rfl (qAO (by simp [qAT, *]))
  rw [r3] at hNv
  refine hNv.eq rfl ?_
  by_cases r4:qB0 n=true
  rotate_left
  ·rw [Bool.not_eq_true] at r4
   rw [r4] at hNn
   refine hNn.eq rfl ?_
   exact qAF _ rfl rfl (qAO (by simp [qAT, *]))
  rw [r4] at hNn
  refine hNn.eq rfl ?_
  refine QAD (fun r5=>?_) (fun r5=>?_)
  rotate_left
  ·have r5:¬ (1:Int)<=rel:=r5
   exact qAF _ rfl rfl (qAO (by simp [qAT, *]))
  have r5:(1:Int)<=rel:=r5
  refine QAD (fun r6=>?_) (fun r6=>?_)
  rotate_left
  ·have r6:¬ rel<=4:=r6
   exact qAF _ rfl rfl (qAO (by simp [qAT, *]))
  have r6:rel<=4:=r6
  refine QAD (fun r9=>?_) (fun r9=>?_)
  rotate_left
  ·have r9:¬ ((st.map i64).length:Int)=0:=r9
   have r9:¬ st=[]:=fun e=>r9 (by rw [e];rfl)
   exact qAF _ rfl rfl (qAO (by simp [qAT, *]))
  have r9:((st.map i64).length:Int)=0:=r9
  have r9:st=[]:=by rw [List.length_map] at r9;exact List.length_eq_zero_iff.1 (by omega)
  exact qAF _ rfl rfl (qAO (by simp [qAT, *]))
 have o5:op=5:=o5
 have hno:qGp st=false->qAT op n rel val r st=false:=fun h=>by simp [qAT, *]
 refine QAD (fun h1=>?_) (fun h1=>?_)
 ·have h1:((st.map i64).length:Int)<1:=h1
  rw [hm] at h1
  exact qAF _ rfl rfl (qAO (hno (by rw [qGp,decide_eq_false (by omega)];rfl)).symm)
 have h1:¬ ((st.map i64).length:Int)<1:=h1
 rw [hm] at h1
 refine QAD (fun h2=>?_) (fun h2=>?_)
 ·have h2:(8:Int)<((st.map i64).length:Nat):=h2
  rw [hm] at h2
  exact qAF _ rfl rfl (qAO (hno (by rw [qGp,decide_eq_false (show ¬ st.length<=8 by omega),Bool.and_false];rfl)).symm)
 have h2:¬ (8:Int)<((st.map i64).length:Nat):=h2
 rw [hm] at h2
 have hB0:qGp st=qOb st (st.length - 0) 0:=by rw [qGp,decide_eq_true (show 1<=st.length by omega),decide_eq_true (show st.length<=8 by omega)];rfl
 refine⟨Nat,fun k=>[(1, .ptr 0 0 0),(3, .p (i64 k))],fun _=>⟨1,[(0,cO ((Cd.mk op n rel val r st ar).cells.map .p))]⟩,fun k=>k<=st.length/\qGp st=qOb st (st.length - k) k,fun k=>st.length - k,?_,?_⟩
 ·exact⟨0,⟨Nat.zero_le _,hB0⟩,qAA [] [] [] rfl (sk) (sk) rfl⟩
 rintro k ⟨k1,k2⟩
 clear hB0
 refine QAD (fun h3=>?_) (fun h3=>?_)
 rotate_left
 ·have h3:¬ (k:Int)<((st.map i64).length:Nat):=h3
  rw [hm] at h3
  rw [show st.length - k=0 by omega,qOb] at k2
  by_cases r1:qBg r=true
  rotate_left
  ·rw [Bool.not_eq_true] at r1
   rw [r1] at hRf
   refine hRf.eq rfl ?_
   exact qAF _ rfl rfl (qAO (by simp [qAT, *]))
  rw [r1] at hRf
  refine hRf.eq rfl ?_
  refine QAD (fun r2=>?_) (fun r2=>?_)
  rotate_left
  ·have r2:¬ n=0:=r2
   exact qAF _ rfl rfl (qAO (by simp [qAT, *]))
  have r2:n=0:=r2
  refine QAD (fun r3=>?_) (fun r3=>?_)
  rotate_left
  ·have r3:¬ rel=0:=r3
   exact qAF _ rfl rfl (qAO (by simp [qAT, *]))
  have r3:rel=0:=r3
  refine QAD (fun r4=>?_) (fun r4=>?_)
  rotate_left
  ·have r4:¬ val=0:=r4
   exact qAF _ rfl rfl (qAO (by simp [qAT, *]))
  have r4:val=0:=r4
  exact qAF _ rfl rfl (qAO (by simp [qAT, *]))
 have h3:(k:Int)<((st.map i64).length:Nat):=h3
 rw [hm] at h3
 have hk:k<st.length:=by omega
 obtain⟨f,hf⟩:∃ f,st.length - k=f+1:=⟨st.length - k - 1,by omega⟩
 rw [hf,qOb] at k2
 refine VDraw.seq rfl ?_
 refine⟨_,⟨by omega,i64 (st.getD k 0),qCQ hk,rfl⟩,?_⟩
 have hN:=qDy (st.getD k 0)
 by_cases n1:qB0 (st.getD k 0)=true
 rotate_left
 ·rw [Bool.not_eq_true] at n1
  rw [n1] at hN k2
  refine hN.eq rfl ?_
  exact qAF _ rfl rfl (qAO (hno (by rw [k2];simp)).symm)
 rw [n1] at hN k2
 refine hN.eq rfl ?_
 refine QAD (fun h4=>?_) (fun h4=>?_)
 ·have h4:(0:Int)<(k:Nat):=h4
  obtain⟨j,rfl⟩:∃ j,k=j+1:=⟨k - 1,by omega⟩
  refine⟨_,⟨by omega,i64 (st.getD (j+1) 0),qCQ hk,rfl⟩,?_⟩
  refine⟨(j:Int),by rw [show((j+1:Nat):Int) - 1=(j:Int) by omega];exact w6z,?_⟩
  refine⟨_,⟨by omega,i64 (st.getD j 0),qCQ (by omega),rfl⟩,?_⟩
  refine QAD (fun h5=>?_) (fun h5=>?_)
  ·have h5:st.getD (j+1) 0<=st.getD j 0:=h5
   exact qAF _ rfl rfl (qAO (hno (by rw [k2,Nat.add_sub_cancel,decide_eq_false (show ¬ st.getD j 0<st.getD (j+1) 0 by omega),decide_eq_false (by omega)];rfl)).symm)
  ·have h5:¬ st.getD (j+1) 0<=st.getD j 0:=h5
   refine⟨_,w6z,?_⟩
   exact⟨j+1+1,⟨by omega,by rw [k2,Nat.add_sub_cancel,decide_eq_true (show st.getD j 0<st.getD (j+1) 0 by omega),Bool.or_true,show st.length - (j+1+1)=f by omega];rfl⟩,qAA [] [] [] rfl (sk) (sk) rfl,by show st.length - (j+1+1)<st.length - (j+1);omega⟩
 ·have h4:¬ (0:Int)<(k:Nat):=h4
  have hk0:k=0:=by omega
  subst hk0
  refine⟨_,w6z,?_⟩
  exact⟨0+1,⟨by omega,by rw [k2,show st.length - (0+1)=f by omega];rfl⟩,qAA [] [] [] rfl (sk) (sk) rfl,by show st.length - (0+1)<st.length - 0;omega⟩
def qXS:Option Nat->Int
 | some l=>(l:Int)
 | none=>-1
def qWZ (d:Nat):Prop:=∀ (c:Cd) (left p:Nat),qC8 c->left<=1000->p+d=9->Pure cx 119 [c.pv,i64 left,i64 p] (·=.ret [i64 (qXS (qAg d c left))])
theorem qRH {r:Rf} (h4:r.cells=rf0.cells):r=rf0:=by
 obtain⟨a,b,c,d⟩:=r
 simp only [Rf.cells,rf0,List.cons.injEq,PV.str.injEq,PV.int.injEq,true_and,and_true] at h4
 obtain⟨rfl,rfl,rfl,rfl⟩:=h4
 rfl
theorem qTn (d:Nat) (ih:qWZ d):qWZ (d+1):=by
 rintro⟨op,n,rel,val,r,st,ar⟩ left p hb hl hp9
 simp only [qC8] at hb
 obtain⟨hb1,hb2,hb3,hb4⟩:=hb
 have hT:=qS4 op n rel val r st ar hb1 hb2
 have epv:(Cd.mk op n rel val r st ar).pv=.agg [i64 op,i64 n,i64 rel,i64 val, .str r.name,i64 r.mode, .str r.plate,i64 r.n,ints st,cds ar]:=by
  show PV.agg [i64 op,i64 n,i64 rel,i64 val, .str r.name,i64 r.mode, .str r.plate,i64 r.n,ints st, .lsts 10 (qBG ar)]=_
  rw [qBN]
 rw [epv] at hT ⊢
 generalize hR:qAg (d+1) (.mk op n rel val r st ar) left=R
 rw [qAg] at hR
 refine qAB Tryz.func119 rfl rfl rfl ?_
 rcases Nat.eq_zero_or_pos left with h0 | h0
 ·subst h0
  rw [if_pos rfl] at hR
  refine And.intro (fun _=>?_) (fun h=>absurd (show(0:Int)<1 by decide) h)
  exact qAF _ rfl rfl (qBD (by rw [<- hR];rfl))
 obtain⟨m,rfl⟩:∃ m,left=m+1:=⟨left - 1,by omega⟩
 rw [if_neg (by omega),Nat.add_sub_cancel] at hR
 have hno:qAW op n rel val r st ar.length=false->R=none:=fun h=>by rw [<- hR,if_neg (by rw [h];decide)]
 have hyes:qAW op n rel val r st ar.length=true->ar.foldlM (fun l c=>qAg d c l) m=R:=fun h=>by rw [<- hR,if_pos h]
 clear hR
 refine And.intro (fun h=>absurd (show((m+1:Nat):Int)<1 from h) (by omega)) (fun _=>?_)
 refine And.intro (fun h=>absurd (show(8:Int)<(p:Nat) from h) (by omega)) (fun _=>?_)
 refine QAD (fun o7=>?_) (fun o7=>?_)
 ·have o7:op=7:=o7
  by_cases hk:ar.length=1
  rotate_left
  ·refine And.intro (fun h=>absurd (show((ar.map Cd.cells).length:Int)=1 from h) (by rw [List.length_map];omega)) (fun _=>?_)
   exact qAF _ rfl rfl (qBD (by rw [hno (by simp [qAW,qAX, *])];rfl))
  refine And.intro (fun _=>?_) (fun h=>absurd (show((ar.map Cd.cells).length:Int)=1 by rw [List.length_map];omega) h)
  refine And.intro (fun h=>absurd (show(1:Int)=0 from h) (by decide)) (fun _=>?_)
  refine And.intro (fun r1=>?_) (fun r1=>?_)
  rotate_left
  ·have r1:¬ n=0:=r1
   exact qAF _ rfl rfl (qBD (by rw [hno (by simp [qAW,qAX,qAm, *])];rfl))
  have r1:n=0:=r1
  refine And.intro (fun r2=>?_) (fun r2=>?_)
  rotate_left
  ·have r2:¬ rel=0:=r2
   exact qAF _ rfl rfl (qBD (by rw [hno (by simp [qAW,qAX,qAm, *])];rfl))
  have r2:rel=0:=r2
  refine And.intro (fun r3=>?_) (fun r3=>?_)
  rotate_left
  ·have r3:¬ val=0:=r3
   exact qAF _ rfl rfl (qBD (by rw [hno (by simp [qAW,qAX,qAm, *])];rfl))
  have r3:val=0:=r3
  refine⟨⟨by kernel_rfl,by kernel_rfl⟩,fun r4=>?_,fun r4=>?_⟩
  rotate_left
  ·have r4:¬ r=rf0:=fun e=>r4 (by rw [e];rfl)
   exact qAF _ rfl rfl (qBD (by rw [hno (by simp [qAW,qAX,qAm, *])];rfl))
  have r4:r=rf0:=qRH (by first | exact r4 | (injection r4))
  refine And.intro (fun r5=>?_) (fun r5=>?_)
  rotate_left
  ·have r5:¬ ((st.map i64).length:Int)=0:=r5
   have r5:¬ st=[]:=fun e=>r5 (by rw [e];rfl)
   exact qAF _ rfl rfl (qBD (by rw [hno (by simp [qAW,qAX,qAm, *])];rfl))
  have r5:((st.map i64).length:Int)=0:=r5
  have r5:st=[]:=by rw [List.length_map] at r5;exact List.length_eq_zero_iff.1 (by omega)
  have hy:=hyes (by simp [qAW,qAX,qAm, *])
  refine⟨(m:Int),by rw [show((m+1:Nat):Int) - 1=(m:Int) by omega];exact w6z,?_⟩
  refine⟨Nat × Nat,fun x=>[(1, .p (i64 x.2)),(2, .p (i64 p)),(3, .ptr 0 0 0),(7, .p (i64 1)),(8, .p (i64 x.1))],fun x=>⟨1,[(0,cO [.p (i64 op), .p (i64 n), .p (i64 rel), .p (i64 val), .p (.str r.name), .p (i64 r.mode), .p (.str r.plate), .p (i64 r.n), .p (ints st), .p (cds ar)])]⟩,fun x=>x.1<=ar.length/\x.2<=1000/\(ar.drop x.1).foldlM (fun l c=>qAg d c l) x.2=R,fun x=>ar.length - x.1,?_,?_⟩
  ·exact⟨(0,m),⟨Nat.zero_le _,by simp only [];omega,hy⟩,qAA [] [] [] rfl (sk) (sk) rfl⟩
  rintro⟨i,l⟩ ⟨i1,i2,i3⟩
  simp only [] at i1 i2 i3
  refine QAD (fun j1=>?_) (fun j1=>?_)
  rotate_left
  ·have j1:¬ (i:Int)<1:=j1
   rw [List.drop_eq_nil_of_le (by omega),List.foldlM_nil] at i3
   exact qAF _ rfl rfl (qBD (by rw [<- i3];rfl))
  have j1:(i:Int)<1:=j1
  have hi:i<ar.length:=by omega
  rw [qBt cd0 hi,List.foldlM_cons] at i3
  have hbx:=qBO hb4 (qAI cd0 hi)
  have hcell:=qCq hi
  rcases hx:ar.getD i cd0 with ⟨o',n',rl',vl',rf',st',ar'⟩
  rw [hx] at i3 hbx hcell
  refine⟨_,⟨by omega,(Cd.mk o' n' rl' vl' rf' st' ar').cells,hcell,rfl⟩,?_⟩
  refine⟨((p+1:Nat):Int),w6z,?_⟩
  have hrec:=ih (.mk o' n' rl' vl' rf' st' ar') l (p+1) hbx (by omega) (by omega)
  rcases hv:qAg d (.mk o' n' rl' vl' rf' st' ar') l with _ | l2
  ·rw [hv] at hrec i3
   refine hrec.eq rfl ?_
   refine And.intro (fun _=>?_) (fun h=>absurd (show(-1:Int)<0 by decide) h)
   exact qAF _ rfl rfl (qBD (by rw [<- i3];rfl))
  ·have hle:=qBf _ _ _ _ hv
   rw [hv] at hrec i3
   refine hrec.eq rfl ?_
   refine And.intro (fun h=>absurd (show(l2:Int)<0 from h) (by omega)) (fun _=>?_)
   refine⟨_,w6z,?_⟩
   exact⟨(i+1,l2),⟨by simp only [];omega,by simp only [];omega,i3⟩,qAA [] [] [] rfl (sk) (sk) rfl,by show ar.length - (i+1)<ar.length - i;omega⟩
 have o7:¬ op=7:=o7
 refine QAD (fun o8=>?_) (fun o8=>?_)
 ·have o8:op=8:=o8
  by_cases hk:ar.length=2
  rotate_left
  ·refine And.intro (fun h=>absurd (show((ar.map Cd.cells).length:Int)=2 from h) (by rw [List.length_map];omega)) (fun _=>?_)
   exact qAF _ rfl rfl (qBD (by rw [hno (by simp [qAW,qAX, *])];rfl))
  refine And.intro (fun _=>?_) (fun h=>absurd (show((ar.map Cd.cells).length:Int)=2 by rw [List.length_map];omega) h)
  refine And.intro (fun h=>absurd (show(2:Int)=0 from h) (by decide)) (fun _=>?_)
  refine And.intro (fun r1=>?_) (fun r1=>?_)
  rotate_left
  ·have r1:¬ n=0:=r1
   exact qAF _ rfl rfl (qBD (by rw [hno (by simp [qAW,qAX,qAm, *])];rfl))
  have r1:n=0:=r1
  refine And.intro (fun r2=>?_) (fun r2=>?_)
  rotate_left
  ·have r2:¬ rel=0:=r2
   exact qAF _ rfl rfl (qBD (by rw [hno (by simp [qAW,qAX,qAm, *])];rfl))
  have r2:rel=0:=r2
  refine And.intro (fun r3=>?_) (fun r3=>?_)
  rotate_left
  ·have r3:¬ val=0:=r3
   exact qAF _ rfl rfl (qBD (by rw [hno (by simp [qAW,qAX,qAm, *])];rfl))
  have r3:val=0:=r3
  refine⟨⟨by kernel_rfl,by kernel_rfl⟩,fun r4=>?_,fun r4=>?_⟩
  rotate_left
  ·have r4:¬ r=rf0:=fun e=>r4 (by rw [e];rfl)
   exact qAF _ rfl rfl (qBD (by rw [hno (by simp [qAW,qAX,qAm, *])];rfl))
  have r4:r=rf0:=qRH (by first | exact r4 | (injection r4))
  refine And.intro (fun r5=>?_) (fun r5=>?_)
  rotate_left
  ·have r5:¬ ((st.map i64).length:Int)=0:=r5
   have r5:¬ st=[]:=fun e=>r5 (by rw [e];rfl)
   exact qAF _ rfl rfl (qBD (by rw [hno (by simp [qAW,qAX,qAm, *])];rfl))
  have r5:((st.map i64).length:Int)=0:=r5
  have r5:st=[]:=by rw [List.length_map] at r5;exact List.length_eq_zero_iff.1 (by omega)
  have hy:=hyes (by simp [qAW,qAX,qAm, *])
  refine⟨(m:Int),by rw [show((m+1:Nat):Int) - 1=(m:Int) by omega];exact w6z,?_⟩
  refine⟨Nat × Nat,fun x=>[(1, .p (i64 x.2)),(2, .p (i64 p)),(3, .ptr 0 0 0),(7, .p (i64 2)),(8, .p (i64 x.1))],fun x=>⟨1,[(0,cO [.p (i64 op), .p (i64 n), .p (i64 rel), .p (i64 val), .p (.str r.name), .p (i64 r.mode), .p (.str r.plate), .p (i64 r.n), .p (ints st), .p (cds ar)])]⟩,fun x=>x.1<=ar.length/\x.2<=1000/\(ar.drop x.1).foldlM (fun l c=>qAg d c l) x.2=R,fun x=>ar.length - x.1,?_,?_⟩
  ·exact⟨(0,m),⟨Nat.zero_le _,by simp only [];omega,hy⟩,qAA [] [] [] rfl (sk) (sk) rfl⟩
  rintro⟨i,l⟩ ⟨i1,i2,i3⟩
  simp only [] at i1 i2 i3
  refine QAD (fun j1=>?_) (fun j1=>?_)
  rotate_left
  ·have j1:¬ (i:Int)<2:=j1
   rw [List.drop_eq_nil_of_le (by omega),List.foldlM_nil] at i3
   exact qAF _ rfl rfl (qBD (by rw [<- i3];rfl))
  have j1:(i:Int)<2:=j1
  have hi:i<ar.length:=by omega
  rw [qBt cd0 hi,List.foldlM_cons] at i3
  have hbx:=qBO hb4 (qAI cd0 hi)
  have hcell:=qCq hi
  rcases hx:ar.getD i cd0 with ⟨o',n',rl',vl',rf',st',ar'⟩
  rw [hx] at i3 hbx hcell
  refine⟨_,⟨by omega,(Cd.mk o' n' rl' vl' rf' st' ar').cells,hcell,rfl⟩,?_⟩
  refine⟨((p+1:Nat):Int),w6z,?_⟩
  have hrec:=ih (.mk o' n' rl' vl' rf' st' ar') l (p+1) hbx (by omega) (by omega)
  rcases hv:qAg d (.mk o' n' rl' vl' rf' st' ar') l with _ | l2
  ·rw [hv] at hrec i3
   refine hrec.eq rfl ?_
   refine And.intro (fun _=>?_) (fun h=>absurd (show(-1:Int)<0 by decide) h)
   exact qAF _ rfl rfl (qBD (by rw [<- i3];rfl))
  ·have hle:=qBf _ _ _ _ hv
   rw [hv] at hrec i3
   refine hrec.eq rfl ?_
   refine And.intro (fun h=>absurd (show(l2:Int)<0 from h) (by omega)) (fun _=>?_)
   refine⟨_,w6z,?_⟩
   exact⟨(i+1,l2),⟨by simp only [];omega,by simp only [];omega,i3⟩,qAA [] [] [] rfl (sk) (sk) rfl,by show ar.length - (i+1)<ar.length - i;omega⟩
 have o8:¬ op=8:=o8
 refine QAD (fun o9=>?_) (fun o9=>?_)
 ·have o9:op=9:=o9
  by_cases hk:ar.length=2
  rotate_left
  ·refine And.intro (fun h=>absurd (show((ar.map Cd.cells).length:Int)=2 from h) (by rw [List.length_map];omega)) (fun _=>?_)
   exact qAF _ rfl rfl (qBD (by rw [hno (by simp [qAW,qAX, *])];rfl))
  refine And.intro (fun _=>?_) (fun h=>absurd (show((ar.map Cd.cells).length:Int)=2 by rw [List.length_map];omega) h)
  refine And.intro (fun h=>absurd (show(2:Int)=0 from h) (by decide)) (fun _=>?_)
  refine And.intro (fun r1=>?_) (fun r1=>?_)
  rotate_left
  ·have r1:¬ n=0:=r1
   exact qAF _ rfl rfl (qBD (by rw [hno (by simp [qAW,qAX,qAm, *])];rfl))
  have r1:n=0:=r1
  refine And.intro (fun r2=>?_) (fun r2=>?_)
  rotate_left
  ·have r2:¬ rel=0:=r2
   exact qAF _ rfl rfl (qBD (by rw [hno (by simp [qAW,qAX,qAm, *])];rfl))
  have r2:rel=0:=r2
  refine And.intro (fun r3=>?_) (fun r3=>?_)
  rotate_left
  ·have r3:¬ val=0:=r3
   exact qAF _ rfl rfl (qBD (by rw [hno (by simp [qAW,qAX,qAm, *])];rfl))
  have r3:val=0:=r3
  refine⟨⟨by kernel_rfl,by kernel_rfl⟩,fun r4=>?_,fun r4=>?_⟩
  rotate_left
  ·have r4:¬ r=rf0:=fun e=>r4 (by rw [e];rfl)
   exact qAF _ rfl rfl (qBD (by rw [hno (by simp [qAW,qAX,qAm, *])];rfl))
  have r4:r=rf0:=qRH (by first | exact r4 | (injection r4))
  refine And.intro (fun r5=>?_) (fun r5=>?_)
  rotate_left
  ·have r5:¬ ((st.map i64).length:Int)=0:=r5
   have r5:¬ st=[]:=fun e=>r5 (by rw [e];rfl)
   exact qAF _ rfl rfl (qBD (by rw [hno (by simp [qAW,qAX,qAm, *])];rfl))
  have r5:((st.map i64).length:Int)=0:=r5
  have r5:st=[]:=by rw [List.length_map] at r5;exact List.length_eq_zero_iff.1 (by omega)
  have hy:=hyes (by simp [qAW,qAX,qAm, *])
  refine⟨(m:Int),by rw [show((m+1:Nat):Int) - 1=(m:Int) by omega];exact w6z,?_⟩
  refine⟨Nat × Nat,fun x=>[(1, .p (i64 x.2)),(2, .p (i64 p)),(3, .ptr 0 0 0),(7, .p (i64 2)),(8, .p (i64 x.1))],fun x=>⟨1,[(0,cO [.p (i64 op), .p (i64 n), .p (i64 rel), .p (i64 val), .p (.str r.name), .p (i64 r.mode), .p (.str r.plate), .p (i64 r.n), .p (ints st), .p (cds ar)])]⟩,fun x=>x.1<=ar.length/\x.2<=1000/\(ar.drop x.1).foldlM (fun l c=>qAg d c l) x.2=R,fun x=>ar.length - x.1,?_,?_⟩
  ·exact⟨(0,m),⟨Nat.zero_le _,by simp only [];omega,hy⟩,qAA [] [] [] rfl (sk) (sk) rfl⟩
  rintro⟨i,l⟩ ⟨i1,i2,i3⟩
  simp only [] at i1 i2 i3
  refine QAD (fun j1=>?_) (fun j1=>?_)
  rotate_left
  ·have j1:¬ (i:Int)<2:=j1
   rw [List.drop_eq_nil_of_le (by omega),List.foldlM_nil] at i3
   exact qAF _ rfl rfl (qBD (by rw [<- i3];rfl))
  have j1:(i:Int)<2:=j1
  have hi:i<ar.length:=by omega
  rw [qBt cd0 hi,List.foldlM_cons] at i3
  have hbx:=qBO hb4 (qAI cd0 hi)
  have hcell:=qCq hi
  rcases hx:ar.getD i cd0 with ⟨o',n',rl',vl',rf',st',ar'⟩
  rw [hx] at i3 hbx hcell
  refine⟨_,⟨by omega,(Cd.mk o' n' rl' vl' rf' st' ar').cells,hcell,rfl⟩,?_⟩
  refine⟨((p+1:Nat):Int),w6z,?_⟩
  have hrec:=ih (.mk o' n' rl' vl' rf' st' ar') l (p+1) hbx (by omega) (by omega)
  rcases hv:qAg d (.mk o' n' rl' vl' rf' st' ar') l with _ | l2
  ·rw [hv] at hrec i3
   refine hrec.eq rfl ?_
   refine And.intro (fun _=>?_) (fun h=>absurd (show(-1:Int)<0 by decide) h)
   exact qAF _ rfl rfl (qBD (by rw [<- i3];rfl))
  ·have hle:=qBf _ _ _ _ hv
   rw [hv] at hrec i3
   refine hrec.eq rfl ?_
   refine And.intro (fun h=>absurd (show(l2:Int)<0 from h) (by omega)) (fun _=>?_)
   refine⟨_,w6z,?_⟩
   exact⟨(i+1,l2),⟨by simp only [];omega,by simp only [];omega,i3⟩,qAA [] [] [] rfl (sk) (sk) rfl,by show ar.length - (i+1)<ar.length - i;omega⟩
 have o9:¬ op=9:=o9
 by_cases hk:ar.length=0
 rotate_left
 ·refine And.intro (fun h=>absurd (show((ar.map Cd.cells).length:Int)=0 from h) (by rw [List.length_map];omega)) (fun _=>?_)
  exact qAF _ rfl rfl (qBD (by rw [hno (by simp [qAW,qAX, *])];rfl))
 refine And.intro (fun _=>?_) (fun h=>absurd (show((ar.map Cd.cells).length:Int)=0 by rw [List.length_map];omega) h)
 refine And.intro (fun _=>?_) (fun h=>absurd rfl h)
 by_cases ht:qAT op n rel val r st=true
 rotate_left
 ·rw [Bool.not_eq_true] at ht
  rw [ht] at hT
  refine hT.eq rfl ?_
  exact qAF _ rfl rfl (qBD (by rw [hno (by simp [qAW,qAX, *])];rfl))
 rw [ht] at hT
 refine hT.eq rfl ?_
 have hy:=hyes (by simp [qAW,qAX, *])
 have har:ar=[]:=List.length_eq_zero_iff.1 hk
 rw [har,List.foldlM_nil] at hy
 refine⟨(m:Int),by rw [show((m+1:Nat):Int) - 1=(m:Int) by omega];exact w6z,?_⟩
 exact qAF _ rfl rfl (qBD (by rw [<- hy];rfl))
theorem qKm:∀ d,d<=8->qWZ d
 | 0,_=>by
  rintro⟨op,n,rel,val,r,st,ar⟩ left p hb hl hp9
  refine qAB Tryz.func119 rfl rfl rfl ?_
  refine QAD (fun h1=>?_) (fun h1=>?_)
  ·exact qAF _ rfl rfl rfl
  ·refine And.intro (fun _=>?_) (fun h=>absurd (show(8:Int)<(p:Nat) by omega) h)
   exact qAF _ rfl rfl rfl
 | d+1,h=>qTn d (qKm d (by omega))
theorem qU2 (op n rel val:Int) (r:Rf) (st:List Int) (ar:List Cd) (_hs:st.length<=9223372036854775807) (_ha:ar.length<=9223372036854775807):Pure cx 118 [(Cd.mk op n rel val r st ar).pv] (·=.ret [.bool (qDr (.mk op n rel val r st ar))]):=by
 have epv:(Cd.mk op n rel val r st ar).pv=.agg [i64 op,i64 n,i64 rel,i64 val, .str r.name,i64 r.mode, .str r.plate,i64 r.n,ints st,cds ar]:=by
  show PV.agg [i64 op,i64 n,i64 rel,i64 val, .str r.name,i64 r.mode, .str r.plate,i64 r.n,ints st, .lsts 10 (qBG ar)]=_
  rw [qBN]
 rw [epv]
 refine qAB Tryz.func118 rfl rfl rfl ?_
 refine QAD (fun h0=>?_) (fun h0=>?_)
 rotate_left
 ·have h0:¬ op=0:=h0
  exact qAF _ rfl rfl (qAO (by simp [qDr,qAm, *]))
 have h0:op=0:=h0
 refine QAD (fun h1=>?_) (fun h1=>?_)
 rotate_left
 ·have h1:¬ n=0:=h1
  exact qAF _ rfl rfl (qAO (by simp [qDr,qAm, *]))
 have h1:n=0:=h1
 refine QAD (fun h2=>?_) (fun h2=>?_)
 rotate_left
 ·have h2:¬ rel=0:=h2
  exact qAF _ rfl rfl (qAO (by simp [qDr,qAm, *]))
 have h2:rel=0:=h2
 refine QAD (fun h3=>?_) (fun h3=>?_)
 rotate_left
 ·have h3:¬ val=0:=h3
  exact qAF _ rfl rfl (qAO (by simp [qDr,qAm, *]))
 have h3:val=0:=h3
 refine⟨⟨by kernel_rfl,by kernel_rfl⟩,fun h4=>?_,fun h4=>?_⟩
 rotate_left
 ·have h4:¬ r=rf0:=fun e=>h4 (by rw [e];rfl)
  exact qAF _ rfl rfl (qAO (by simp [qDr,qAm, *]))
 have h4:r=rf0:=qRH (by first | exact h4 | (injection h4))
 refine QAD (fun h5=>?_) (fun h5=>?_)
 rotate_left
 ·have h5:¬ ((st.map i64).length:Int)=0:=h5
  have h5:¬ st=[]:=fun e=>h5 (by rw [e];rfl)
  exact qAF _ rfl rfl (qAO (by simp [qDr,qAm, *]))
 have h5:((st.map i64).length:Int)=0:=h5
 have h5:st=[]:=by rw [List.length_map] at h5;exact List.length_eq_zero_iff.1 (by omega)
 refine QAD (fun h6=>?_) (fun h6=>?_)
 ·have h6:((ar.map Cd.cells).length:Int)=0:=h6
  have h6:ar=[]:=by rw [List.length_map] at h6;exact List.length_eq_zero_iff.1 (by omega)
  exact qAF _ rfl rfl (qAO (by simp [qDr,qAm, *]))
 ·have h6:¬ ((ar.map Cd.cells).length:Int)=0:=h6
  have h6:¬ ar=[]:=fun e=>h6 (by rw [e];rfl)
  exact qAF _ rfl rfl (qAO (by simp [qDr,qAm, *]))
set_option maxHeartbeats 4000000
theorem qRR (l:List Cs) (hb:BigL l):Pure cx 92 [css l] (·=.ret [.bool (qBH l)]):=by
 refine qAB Tryz.func92 rfl rfl rfl ?_
 have hll:=hb.len
 have hm:(l.map Cs.cells).length=l.length:=List.length_map ..
 refine QAD (fun h1=>?_) (fun h1=>?_)
 ·have h1:((l.map Cs.cells).length:Int)<1:=h1
  rw [hm] at h1
  exact qAF _ rfl rfl (qAO (by rw [qBH,decide_eq_false (by omega)];rfl))
 have h1:¬ ((l.map Cs.cells).length:Int)<1:=h1
 rw [hm] at h1
 refine QAD (fun h2=>?_) (fun h2=>?_)
 ·have h2:(12:Int)<((l.map Cs.cells).length:Nat):=h2
  rw [hm] at h2
  exact qAF _ rfl rfl (qAO (by rw [qBH,decide_eq_false (show ¬ l.length<=12 by omega),Bool.and_false];rfl))
 have h2:¬ (12:Int)<((l.map Cs.cells).length:Nat):=h2
 rw [hm] at h2
 have hB0:qBH l=qBd (l.drop 0):=by rw [qBH,decide_eq_true (show 1<=l.length by omega),decide_eq_true (show l.length<=12 by omega)];rfl
 refine⟨Nat,fun i=>[(0, .p (css l)),(3, .p (i64 i))],fun _=>⟨0,[]⟩,fun i=>i<=l.length/\qBH l=qBd (l.drop i),fun i=>l.length - i,?_,?_⟩
 ·exact⟨0,⟨Nat.zero_le _,hB0⟩,qDu rfl ⟨rfl,rfl,trivial⟩ trivial rfl⟩
 rintro i ⟨i0,i2⟩
 clear hB0
 refine QAD (fun j1=>?_) (fun j1=>?_)
 rotate_left
 ·have j1:¬ (i:Int)<((l.map Cs.cells).length:Nat):=j1
  rw [hm] at j1
  rw [List.drop_eq_nil_of_le (by omega),qBd] at i2
  exact qAF _ rfl rfl (qAO i2.symm)
 have j1:(i:Int)<((l.map Cs.cells).length:Nat):=j1
 rw [hm] at j1
 have i1:i<l.length:=by omega
 have hmem:=qAI cs0 i1
 have hbc:=hb.cond _ hmem
 have hbn:=hb.nums _ hmem
 have hcell:=qHm i1
 have hstep:=fun h=>qHW (l:=l) (i:=i) h
 have hlast:=fun h=>qHY (l:=l) (i:=i) h
 rcases hx:l.getD i cs0 with ⟨⟨op,n,rel,val,r,st,ar⟩,nums⟩
 rw [hx] at hbc hbn hcell hstep hlast
 simp only [] at hbc hbn hstep hlast
 have hno:qCD nums=false->qBH l=false:=fun h=>by
  rw [i2]
  rcases Nat.lt_or_ge (i+1) l.length with h3 | h3
  ·rw [hstep h3,h];rfl
  ·rw [hlast (by omega),h];rfl
 have hnm:(nums.map i64).length=nums.length:=List.length_map ..
 refine⟨_,⟨by omega,(⟨.mk op n rel val r st ar,nums⟩:Cs).cells,hcell,rfl⟩,?_⟩
 refine QAD (fun j2=>?_) (fun j2=>?_)
 ·have j2:((nums.map i64).length:Int)<1:=j2
  rw [hnm] at j2
  exact qAF _ rfl rfl (qAO (hno (by rw [qCD,decide_eq_false (by omega)];rfl)).symm)
 have j2:¬ ((nums.map i64).length:Int)<1:=j2
 rw [hnm] at j2
 refine⟨_,⟨by omega,(⟨.mk op n rel val r st ar,nums⟩:Cs).cells,hcell,rfl⟩,?_⟩
 refine QAD (fun j3=>?_) (fun j3=>?_)
 ·have j3:(8:Int)<((nums.map i64).length:Nat):=j3
  rw [hnm] at j3
  exact qAF _ rfl rfl (qAO (hno (by rw [qCD,decide_eq_false (show ¬ nums.length<=8 by omega),Bool.and_false];rfl)).symm)
 have j3:¬ (8:Int)<((nums.map i64).length:Nat):=j3
 rw [hnm] at j3
 refine⟨Nat,fun k=>[(0, .p (css l)),(3, .p (i64 i)),(4, .p (i64 k))],fun _=>⟨0,[]⟩,fun k=>k<=nums.length/\∀ x∈nums.take k,qHi x=true,fun k=>nums.length - k,?_,?_⟩
 ·exact⟨0,⟨Nat.zero_le _,by simp⟩,qDu rfl ⟨rfl,rfl,rfl,trivial⟩ trivial rfl⟩
 rintro k ⟨k1,k2⟩
 refine⟨_,⟨by omega,(⟨.mk op n rel val r st ar,nums⟩:Cs).cells,hcell,rfl⟩,?_⟩
 refine QAD (fun m1=>?_) (fun m1=>?_)
 ·have m1:(k:Int)<((nums.map i64).length:Nat):=m1
  rw [hnm] at m1
  have hk:k<nums.length:=by omega
  have bad:qHi (nums.getD k 0)=false->qBH l=false:=fun h=>hno (by rw [qCD,qK1 0 hk h,Bool.and_false])
  refine⟨_,⟨by omega,(⟨.mk op n rel val r st ar,nums⟩:Cs).cells,hcell,rfl⟩,?_⟩
  refine⟨_,⟨by omega,i64 (nums.getD k 0),qCQ hk,rfl⟩,?_⟩
  refine QAD (fun m2=>?_) (fun m2=>?_)
  ·have m2:nums.getD k 0 < -9999:=m2
   exact qAF _ rfl rfl (qAO (bad (by rw [qHi,decide_eq_false (by omega)];rfl)).symm)
  have m2:¬ nums.getD k 0 < -9999:=m2
  refine⟨_,⟨by omega,(⟨.mk op n rel val r st ar,nums⟩:Cs).cells,hcell,rfl⟩,?_⟩
  refine⟨_,⟨by omega,i64 (nums.getD k 0),qCQ hk,rfl⟩,?_⟩
  refine QAD (fun m3=>?_) (fun m3=>?_)
  ·have m3:(9999:Int)<nums.getD k 0:=m3
   exact qAF _ rfl rfl (qAO (bad (by rw [qHi,decide_eq_false (show ¬ nums.getD k 0<=9999 by omega),Bool.and_false])).symm)
  have m3:¬ (9999:Int)<nums.getD k 0:=m3
  refine⟨_,w6z,?_⟩
  refine⟨k+1,⟨by omega,fun x hx=>?_⟩,qDu rfl ⟨rfl,rfl,rfl,trivial⟩ trivial rfl,by show nums.length - (k+1)<nums.length - k;omega⟩
  rw [qAE 0 hk] at hx
  rcases List.mem_append.1 hx with hx | hx
  ·exact k2 x hx
  ·rw [List.mem_singleton.1 hx,qHi,decide_eq_true (by omega),decide_eq_true (by omega)];rfl
 have m1:¬ (k:Int)<((nums.map i64).length:Nat):=m1
 rw [hnm] at m1
 have hnums:qCD nums=true:=by
  have:nums.all qHi=true:=by
   rw [List.all_eq_true]
   rw [qAc (by omega)] at k2
   exact k2
  rw [qCD,this,decide_eq_true (by omega),decide_eq_true (by omega)];rfl
 refine⟨((l.length - 1:Nat):Int),by show _=IntKind.i64.wrap (((l.map Cs.cells).length:Int) - 1);rw [hm,show(l.length:Int) - 1=((l.length - 1:Nat):Int) by omega];exact w6z,?_⟩
 refine QAD (fun m4=>?_) (fun m4=>?_)
 ·have m4:(i:Int)=((l.length - 1:Nat):Int):=m4
  have hT:=hlast (by omega)
  rw [<- i2,hnums,Bool.true_and] at hT
  simp only [qC8] at hbc
  have hP:=qU2 op n rel val r st ar hbc.2.1 hbc.2.2.1
  refine⟨_,⟨by omega,(⟨.mk op n rel val r st ar,nums⟩:Cs).cells,hcell,rfl⟩,?_⟩
  rw [<- hT] at hP
  by_cases p2:qBH l=true
  rotate_left
  ·rw [Bool.not_eq_true] at p2
   rw [p2] at hP
   refine hP.eq rfl ?_
   exact qAF _ rfl rfl (qAO p2.symm)
  rw [p2] at hP
  refine hP.eq rfl ?_
  refine⟨_,w6z,?_⟩
  exact⟨i+1,⟨by omega,by rw [p2,List.drop_eq_nil_of_le (by omega)];rfl⟩,qDu rfl ⟨rfl,rfl,trivial⟩ trivial rfl,by show l.length - (i+1)<l.length - i;omega⟩
 have m4:¬ (i:Int)=((l.length - 1:Nat):Int):=m4
 have hT:=hstep (by omega)
 rw [<- i2,hnums,Bool.true_and] at hT
 have hC:=qKm 8 (Nat.le_refl _) (.mk op n rel val r st ar) 30 1 hbc (by omega) (by omega)
 refine⟨_,⟨by omega,(⟨.mk op n rel val r st ar,nums⟩:Cs).cells,hcell,rfl⟩,?_⟩
 rcases hv:qAg 8 (.mk op n rel val r st ar) 30 with _ | k2
 ·rw [hv] at hC hT
  refine hC.eq rfl ?_
  refine And.intro (fun _=>?_) (fun h=>absurd (show(-1:Int)<0 by decide) h)
  exact qAF _ rfl rfl (qAO (by rw [hT];rfl))
 ·rw [hv] at hC hT
  refine hC.eq rfl ?_
  refine And.intro (fun h=>absurd (show(k2:Int)<0 from h) (by omega)) (fun _=>?_)
  refine⟨_,w6z,?_⟩
  exact⟨i+1,⟨by omega,by rw [hT];rfl⟩,qDu rfl ⟨rfl,rfl,trivial⟩ trivial rfl,by show l.length - (i+1)<l.length - i;omega⟩
theorem qS5 (l:List Rf) (hl:l.length<=9223372036854775807) (hb:∀ r∈l,BigR r):Pure cx 90 [qBy l] (·=.ret [.bool (decide (l.length<=8) && l.all qBg)]):=by
 refine qAB Tryz.func90 rfl rfl rfl ?_
 have hm:(l.map Rf.cells).length=l.length:=List.length_map ..
 refine⟨Nat,fun k=>[(0, .p (qBy l)),(3, .p (i64 k))],fun _=>⟨0,[]⟩,fun k=>k<=l.length/\∀ x∈l.take k,qBg x=true,fun k=>l.length - k,?_,?_⟩
 ·exact⟨0,⟨Nat.zero_le _,by simp⟩,qDu rfl ⟨rfl,rfl,trivial⟩ trivial rfl⟩
 rintro k ⟨k1,k2⟩
 refine QAD (fun m1=>?_) (fun m1=>?_)
 ·have m1:(k:Int)<((l.map Rf.cells).length:Nat):=m1
  rw [hm] at m1
  have hk:k<l.length:=by omega
  refine⟨_,⟨by omega,(l.getD k rf0).cells,qC6 hk,rfl⟩,?_⟩
  have hR:=qSH (l.getD k rf0) (hb _ (qAI rf0 hk))
  by_cases r1:qBg (l.getD k rf0)=true
  rotate_left
  ·rw [Bool.not_eq_true] at r1
   rw [r1] at hR
   refine hR.eq rfl ?_
   exact qAF _ rfl rfl (qAO (by rw [qK1 rf0 hk r1,Bool.and_false]))
  rw [r1] at hR
  refine hR.eq rfl ?_
  refine⟨_,w6z,?_⟩
  refine⟨k+1,⟨by omega,fun x hx=>?_⟩,qDu rfl ⟨rfl,rfl,trivial⟩ trivial rfl,by show l.length - (k+1)<l.length - k;omega⟩
  rw [qAE rf0 hk] at hx
  rcases List.mem_append.1 hx with hx | hx
  ·exact k2 x hx
  ·rw [List.mem_singleton.1 hx];exact r1
 have m1:¬ (k:Int)<((l.map Rf.cells).length:Nat):=m1
 rw [hm] at m1
 rw [qAc (by omega)] at k2
 have ha:l.all qBg=true:=List.all_eq_true.2 k2
 refine QAD (fun m2=>?_) (fun m2=>?_)
 ·have m2:((l.map Rf.cells).length:Int)<=8:=m2
  rw [hm] at m2
  exact qAF _ rfl rfl (qAO (by rw [ha,decide_eq_true (by omega)];rfl))
 ·have m2:¬ ((l.map Rf.cells).length:Int)<=8:=m2
  rw [hm] at m2
  exact qAF _ rfl rfl (qAO (by rw [decide_eq_false (by omega)];rfl))
theorem qTC (d:De) (hb:BigD d):Pure cx 55 [d.pv] (·=.ret [.bool (qBi d)]):=by
 refine qAB Tryz.func55 rfl rfl rfl ?_
 have hN:=qDy d.n
 have hF:=qS5 d.refs hb.len hb.refs
 have hI:=qI9 d.name hb.name
 have hJ:=qI9 d.plate hb.plate
 have hC:=qRR d.cases hb.cases
 have hrl:=hb.len
 have hcl:=hb.cases.len
 clear hb
 by_cases n1:qB0 d.n=true
 rotate_left
 ·rw [Bool.not_eq_true] at n1
  rw [n1] at hN
  refine hN.eq rfl ?_
  exact qAF _ rfl rfl (qAO (by rw [qBi,n1];rfl))
 rw [n1] at hN
 refine hN.eq rfl ?_
 by_cases n2:(decide (d.refs.length<=8) && d.refs.all qBg)=true
 rotate_left
 ·rw [Bool.not_eq_true] at n2
  rw [n2] at hF
  refine hF.eq rfl ?_
  exact qAF _ rfl rfl (qAO (by rw [qBi,n1,Bool.true_and,n2];rfl))
 rw [n2] at hF
 refine hF.eq rfl ?_
 have hfin:qBi d=qAj d:=by rw [qBi,n1,Bool.true_and,n2];rfl
 clear hF hN n1 n2
 refine And.intro (fun q1=>?_) (fun q1=>?_)
 ·have q1:d.plate=[]:=q1
  by_cases p1:qAk d.name=true
  rotate_left
  ·have p1':=p1
   rw [Bool.not_eq_true] at p1
   rw [p1] at hI
   refine hI.eq rfl ?_
   refine QAD (fun o1=>?_) (fun o1=>?_)
   ·have o1:d.kind=1:=o1
    refine QAD (fun p2=>?_) (fun p2=>?_)
    rotate_left
    ·have p2:¬ d.name=[]:=p2
     exact qAF _ rfl rfl (qAO (by simp [qAj, *]))
    have p2:d.name=[]:=p2
    refine QAD (fun p3=>?_) (fun p3=>?_)
    rotate_left
    ·have p3:¬ ((d.refs.map Rf.cells).length:Int)=0:=p3
     have p3:¬ d.refs=[]:=fun e=>p3 (by rw [e];rfl)
     exact qAF _ rfl rfl (qAO (by simp [qAj, *]))
    have p3:((d.refs.map Rf.cells).length:Int)=0:=p3
    have p3:d.refs=[]:=by rw [List.length_map] at p3;exact List.length_eq_zero_iff.1 (by omega)
    refine QAD (fun p4=>?_) (fun p4=>?_)
    rotate_left
    ·have p4:¬ ((d.cases.map Cs.cells).length:Int)=0:=p4
     have p4:¬ d.cases=[]:=fun e=>p4 (by rw [e];rfl)
     exact qAF _ rfl rfl (qAO (by simp [qAj, *]))
    have p4:((d.cases.map Cs.cells).length:Int)=0:=p4
    have p4:d.cases=[]:=by rw [List.length_map] at p4;exact List.length_eq_zero_iff.1 (by omega)
    exact qAF _ rfl rfl (qAO (by simp [qAj, *]))
   have o1:¬ d.kind=1:=o1
   refine QAD (fun o2=>?_) (fun o2=>?_)
   ·have o2:d.kind=2:=o2
    exact qAF _ rfl rfl (qAO (by simp [qAj, *]))
   have o2:¬ d.kind=2:=o2
   refine QAD (fun o3=>?_) (fun o3=>?_)
   ·have o3:d.kind=3:=o3
    exact qAF _ rfl rfl (qAO (by simp [qAj, *]))
   have o3:¬ d.kind=3:=o3
   refine QAD (fun o4=>?_) (fun o4=>?_)
   ·have o4:d.kind=4:=o4
    exact qAF _ rfl rfl (qAO (by simp [qAj, *]))
   have o4:¬ d.kind=4:=o4
   refine QAD (fun o5=>?_) (fun o5=>?_)
   ·have o5:d.kind=5:=o5
    refine QAD (fun p2=>?_) (fun p2=>?_)
    rotate_left
    ·have p2:¬ d.name=[]:=p2
     exact qAF _ rfl rfl (qAO (by simp [qAj, *]))
    have p2:d.name=[]:=p2
    refine QAD (fun p3=>?_) (fun p3=>?_)
    rotate_left
    ·have p3:¬ d.n=0:=p3
     exact qAF _ rfl rfl (qAO (by simp [qAj, *]))
    have p3:d.n=0:=p3
    refine hC.eq rfl ?_
    exact qAF _ rfl rfl (qAO (by simp [qAj, *]))
   have o5:¬ d.kind=5:=o5
   exact qAF _ rfl rfl (qAO (by simp [qAj, *]))
  rw [p1] at hI
  refine hI.eq rfl ?_
  refine QAD (fun o1=>?_) (fun o1=>?_)
  ·have o1:d.kind=1:=o1
   refine QAD (fun p2=>?_) (fun p2=>?_)
   rotate_left
   ·have p2:¬ d.name=[]:=p2
    exact qAF _ rfl rfl (qAO (by simp [qAj, *]))
   have p2:d.name=[]:=p2
   refine QAD (fun p3=>?_) (fun p3=>?_)
   rotate_left
   ·have p3:¬ ((d.refs.map Rf.cells).length:Int)=0:=p3
    have p3:¬ d.refs=[]:=fun e=>p3 (by rw [e];rfl)
    exact qAF _ rfl rfl (qAO (by simp [qAj, *]))
   have p3:((d.refs.map Rf.cells).length:Int)=0:=p3
   have p3:d.refs=[]:=by rw [List.length_map] at p3;exact List.length_eq_zero_iff.1 (by omega)
   refine QAD (fun p4=>?_) (fun p4=>?_)
   rotate_left
   ·have p4:¬ ((d.cases.map Cs.cells).length:Int)=0:=p4
    have p4:¬ d.cases=[]:=fun e=>p4 (by rw [e];rfl)
    exact qAF _ rfl rfl (qAO (by simp [qAj, *]))
   have p4:((d.cases.map Cs.cells).length:Int)=0:=p4
   have p4:d.cases=[]:=by rw [List.length_map] at p4;exact List.length_eq_zero_iff.1 (by omega)
   exact qAF _ rfl rfl (qAO (by simp [qAj, *]))
  have o1:¬ d.kind=1:=o1
  refine QAD (fun o2=>?_) (fun o2=>?_)
  ·have o2:d.kind=2:=o2
   refine QAD (fun p3=>?_) (fun p3=>?_)
   rotate_left
   ·have p3:¬ ((d.refs.map Rf.cells).length:Int)=0:=p3
    have p3:¬ d.refs=[]:=fun e=>p3 (by rw [e];rfl)
    exact qAF _ rfl rfl (qAO (by simp [qAj, *]))
   have p3:((d.refs.map Rf.cells).length:Int)=0:=p3
   have p3:d.refs=[]:=by rw [List.length_map] at p3;exact List.length_eq_zero_iff.1 (by omega)
   refine QAD (fun p4=>?_) (fun p4=>?_)
   rotate_left
   ·have p4:¬ ((d.cases.map Cs.cells).length:Int)=0:=p4
    have p4:¬ d.cases=[]:=fun e=>p4 (by rw [e];rfl)
    exact qAF _ rfl rfl (qAO (by simp [qAj, *]))
   have p4:((d.cases.map Cs.cells).length:Int)=0:=p4
   have p4:d.cases=[]:=by rw [List.length_map] at p4;exact List.length_eq_zero_iff.1 (by omega)
   exact qAF _ rfl rfl (qAO (by simp [qAj, *]))
  have o2:¬ d.kind=2:=o2
  refine QAD (fun o3=>?_) (fun o3=>?_)
  ·have o3:d.kind=3:=o3
   refine hC.eq rfl ?_
   exact qAF _ rfl rfl (qAO (by simp [qAj, *]))
  have o3:¬ d.kind=3:=o3
  refine QAD (fun o4=>?_) (fun o4=>?_)
  ·have o4:d.kind=4:=o4
   refine QAD (fun p4=>?_) (fun p4=>?_)
   rotate_left
   ·have p4:¬ ((d.cases.map Cs.cells).length:Int)=0:=p4
    have p4:¬ d.cases=[]:=fun e=>p4 (by rw [e];rfl)
    exact qAF _ rfl rfl (qAO (by simp [qAj, *]))
   have p4:((d.cases.map Cs.cells).length:Int)=0:=p4
   have p4:d.cases=[]:=by rw [List.length_map] at p4;exact List.length_eq_zero_iff.1 (by omega)
   exact qAF _ rfl rfl (qAO (by simp [qAj, *]))
  have o4:¬ d.kind=4:=o4
  refine QAD (fun o5=>?_) (fun o5=>?_)
  ·have o5:d.kind=5:=o5
   refine QAD (fun p2=>?_) (fun p2=>?_)
   rotate_left
   ·have p2:¬ d.name=[]:=p2
    exact qAF _ rfl rfl (qAO (by simp [qAj, *]))
   have p2:d.name=[]:=p2
   refine QAD (fun p3=>?_) (fun p3=>?_)
   rotate_left
   ·have p3:¬ d.n=0:=p3
    exact qAF _ rfl rfl (qAO (by simp [qAj, *]))
   have p3:d.n=0:=p3
   refine hC.eq rfl ?_
   exact qAF _ rfl rfl (qAO (by simp [qAj, *]))
  have o5:¬ d.kind=5:=o5
  exact qAF _ rfl rfl (qAO (by simp [qAj, *]))
 have q1:¬ d.plate=[]:=q1
 refine And.intro (fun q2=>?_) (fun q2=>?_)
 rotate_left
 ·have q2:¬ d.kind=3:=q2
  exact qAF _ rfl rfl (qAO (by simp [qAj, *]))
 have q2:d.kind=3:=q2
 by_cases q3:qAk d.plate=true
 rotate_left
 ·rw [Bool.not_eq_true] at q3
  rw [q3] at hJ
  refine hJ.eq rfl ?_
  exact qAF _ rfl rfl (qAO (by simp [qAj, *]))
 rw [q3] at hJ
 refine hJ.eq rfl ?_
 by_cases p1:qAk d.name=true
 rotate_left
 ·rw [Bool.not_eq_true] at p1
  rw [p1] at hI
  refine hI.eq rfl ?_
  refine And.intro (fun h=>absurd (show d.kind=1 from h) (by omega)) (fun _=>?_)
  refine And.intro (fun h=>absurd (show d.kind=2 from h) (by omega)) (fun _=>?_)
  refine And.intro (fun _=>?_) (fun h=>absurd q2 h)
  exact qAF _ rfl rfl (qAO (by simp [qAj, *]))
 rw [p1] at hI
 refine hI.eq rfl ?_
 refine And.intro (fun h=>absurd (show d.kind=1 from h) (by omega)) (fun _=>?_)
 refine And.intro (fun h=>absurd (show d.kind=2 from h) (by omega)) (fun _=>?_)
 refine And.intro (fun _=>?_) (fun h=>absurd q2 h)
 refine hC.eq rfl ?_
 exact qAF _ rfl rfl (qAO (by simp [qAj, *]))
theorem qUq (ds:List De) (hb:BigP ds):Pure cx 29 [qCs ds] (·=.ret [.bool (qAt ds)]):=by
 refine qAB Tryz.func29 rfl rfl rfl ?_
 have hl:=hb.len
 have hm:(ds.map De.cells).length=ds.length:=List.length_map ..
 have hfin:∀ k,k<=ds.length->(30<k∨k=ds.length)->(∀ x∈ds.take k,qBi x=true)->qAt ds=decide (ds.length<=30):=fun k h1 h2 h3=>by
  rcases h2 with h2 | h2
  ·rw [qAt,decide_eq_false (show ¬ ds.length<=30 by omega)];rfl
  ·rw [qAc (by omega)] at h3
   rw [qAt,List.all_eq_true.2 h3,Bool.and_true]
 refine⟨Nat,fun k=>[(1, .ptr 0 0 0),(3, .p (i64 k))],fun _=>⟨1,[(0,srO (.p (des ds)))]⟩,fun k=>k<=ds.length/\k<=31/\∀ x∈ds.take k,qBi x=true,fun k=>ds.length - k,?_,?_⟩
 ·exact⟨0,⟨Nat.zero_le _,by omega,by simp⟩,qAA [] [] [] rfl (sk) (sk) rfl⟩
 rintro k ⟨k1,k3,k2⟩
 refine QAD (fun m1=>?_) (fun m1=>?_)
 ·have m1:(k:Int)<((ds.map De.cells).length:Nat):=m1
  rw [hm] at m1
  have hk:k<ds.length:=by omega
  refine QAD (fun m2=>?_) (fun m2=>?_)
  ·have m2:(k:Int)<=30:=m2
   refine⟨_,⟨by omega,(ds.getD k de0).cells,qDm hk,rfl⟩,?_⟩
   have hR:=qTC (ds.getD k de0) (hb.decl _ (qAI de0 hk))
   by_cases r1:qBi (ds.getD k de0)=true
   rotate_left
   ·rw [Bool.not_eq_true] at r1
    rw [r1] at hR
    refine hR.eq rfl ?_
    exact qAF _ rfl rfl (qAO (by rw [qAt,qK1 de0 hk r1,Bool.and_false]))
   rw [r1] at hR
   refine hR.eq rfl ?_
   refine⟨_,w6z,?_⟩
   refine⟨k+1,⟨by omega,by omega,fun x hx=>?_⟩,qAA [] [] [] rfl (sk) (sk) rfl,by show ds.length - (k+1)<ds.length - k;omega⟩
   rw [qAE de0 hk] at hx
   rcases List.mem_append.1 hx with hx | hx
   ·exact k2 x hx
   ·rw [List.mem_singleton.1 hx];exact r1
  ·have m2:¬ (k:Int)<=30:=m2
   refine And.intro (fun h=>?_) (fun h=>?_)
   ·have h:((ds.map De.cells).length:Int)<=30:=h
    rw [hm] at h
    omega
   ·exact qAF _ rfl rfl (qAO (by rw [hfin k k1 (.inl (by omega)) k2,decide_eq_false (by omega)]))
 ·have m1:¬ (k:Int)<((ds.map De.cells).length:Nat):=m1
  rw [hm] at m1
  refine And.intro (fun h=>?_) (fun h=>?_)
  ·have h:((ds.map De.cells).length:Int)<=30:=h
   rw [hm] at h
   exact qAF _ rfl rfl (qAO (by rw [hfin k k1 (.inr (by omega)) k2,decide_eq_true (by omega)]))
  ·have h:¬ ((ds.map De.cells).length:Int)<=30:=h
   rw [hm] at h
   exact qAF _ rfl rfl (qAO (by rw [hfin k k1 (.inr (by omega)) k2,decide_eq_false (by omega)]))
mutual
def csz:Cd->Nat
 | .mk _ _ _ _ _ _ ar=>qVt ar+1
def qVt:List Cd->Nat
 | []=>0
 | c::r=>csz c+qVt r
end
theorem qL6:∀ {l:List Cd} {c:Cd},c∈l->csz c<=qVt l
 | [],_,h=>by simp at h
 | x::l,c,h=>by
  rw [qVt]
  rcases List.mem_cons.1 h with rfl | h
  ·omega
  ·have:=qL6 h;omega
theorem qDk {a b:Rf} (h:a.cells=b.cells):a=b:=by
 obtain⟨n,m,p,k⟩:=a
 obtain⟨n',m',p',k'⟩:=b
 injection h with h1 h
 injection h with h2 h
 injection h with h3 h
 injection h with h4 h
 injection h1 with h1
 injection h2 with _ h2
 injection h3 with h3
 injection h4 with _ h4
 subst h1 h2 h3 h4
 rfl
def Out {α:Type} (b:Bool) (p:Nat) (r:Rd α) (a:α) (q:Nat) (b':Bool):Prop:=if b=true then b'=true/\q=p else r=if b'=true then .inl q else .inr (a,q)
theorem Out.then {α β:Type} {b b1 b2:Bool} {p q q2:Nat} {r:Rd α} {k:α->Nat->Rd β} {a:α} {c:β} (h:Out b p r a q b1) (h2:Out b1 q (k a q) c q2 b2):Out b p (r.then k) c q2 b2:=by
 cases b
 ·have h:r=if b1=true then .inl q else .inr (a,q):=h
  show r.then k=_
  cases b1
  ·rw [if_neg (by decide)] at h
   subst h
   exact h2
  ·rw [if_pos rfl] at h
   subst h
   obtain⟨rfl,rfl⟩:b2=true/\q2=q:=h2
   rfl
 ·obtain⟨rfl,rfl⟩:b1=true/\q=p:=h
  exact h2
theorem Out.bad {α:Type} {p:Nat} {r:Rd α} {a:α}:Out true p r a p true:=⟨rfl,rfl⟩
theorem Out.same {α:Type} {b:Bool} {p:Nat} {a:α}:Out b p (.inr (a,p)) a p b:=by
 cases b
 ·rfl
 ·exact⟨rfl,rfl⟩
theorem Out.ret {α:Type} {b:Bool} {p:Nat} {a a':α} (h:a=a'):Out b p (.inr (a,p)) a' p b:=by
 subst h;exact Out.same
def LK {α:Type} (b0:Bool) (q0:Nat) (R:Rd α) (go:Nat->Rd α) (n:Nat) (q:Nat) (b:Bool):Prop:=∃ f,(b=false->n - q<f)/\∀ l q' b',Out b q (go f) l q' b'->Out b0 q0 R l q' b'
theorem LK.step {α:Type} {b0:Bool} {q0:Nat} {R:Rd α} {go go':Nat->Rd α} {n q q2:Nat} {b2:Bool} (h:LK b0 q0 R go n q false) (hs:∀ f l q' b',Out b2 q2 (go' f) l q' b'->Out false q (go (f+1)) l q' b') (hlt:b2=false->q<q2/\q2<=n):LK b0 q0 R go' n q2 b2:=by
 obtain⟨f,hf,hk⟩:=h
 obtain⟨f,rfl⟩:∃ g,f=g+1:=⟨f - 1,by have:=hf rfl;omega⟩
 refine⟨f,fun e=>?_,fun l q' b' ho=>hk l q' b' (hs f l q' b' ho)⟩
 have:=hf rfl
 have:=hlt e
 omega
def sgL:List (List UInt8):=[tEq,tNe,tLt,tLe]
def sg (i:Nat):List UInt8:=sgL.getD i []
set_option maxHeartbeats 40000000
theorem qAG {C : Cx} {rd : Bool} {n0 N : Nat} {all : List Oper} {σ : Sg} {ds : List AD} {H : Hp} {K : Sg -> List AD -> Hp -> Prop} {X : List AP -> Sg -> List AD -> Hp -> Prop} (ot : OT)
    (h : (C.P.follows .mixedOrders && qBw N all (masks all []) && qGB all (masks all []) ot [] [] []) = true) (hv : vD C rd all σ K X ot [] ds H) :
    ∃ ot, (C.P.follows .mixedOrders && qBw N all (masks all []) && qGB all (masks all []) ot [] [] []) = true /\
    ((vD C rd all σ K X ot [] ds H) ∨
     ∃ (α : Type) (sl : α -> List (Nat × AV)) (hp : α -> Hp) (pr : α -> Prop),
      vD C rd all σ (fun σ' ds' H' => ∃ x, pr x /\ Ent C n0 N σ' ds' H' (sets (fun _ => .junk) (sl x)) ds (hp x)) X ot [] ds H /\
      ∀ x, pr x -> K (sets (fun _ => .junk) (sl x)) ds (hp x)) := ⟨_, h, .inl hv⟩
theorem qHv {C : Cx} {rd : Bool} {n0 N : Nat} {all : List Oper} {σ : Sg} {ds : List AD} {H : Hp} {K : Sg -> List AD -> Hp -> Prop} {X : List AP -> Sg -> List AD -> Hp -> Prop} (sl : List (Nat × AV)) (hp : Hp) (ot : OT)
    (h : (C.P.follows .mixedOrders && qBw N all (masks all []) && qGB all (masks all []) ot [] [] []) = true)
    (hv : vD C rd all σ (fun σ' ds' H' => Ent C n0 N σ' ds' H' (sets (fun _ => .junk) sl) ds hp) X ot [] ds H) (hk : K (sets (fun _ => .junk) sl) ds hp) :
    ∃ ot, (C.P.follows .mixedOrders && qBw N all (masks all []) && qGB all (masks all []) ot [] [] []) = true /\
    ((vD C rd all σ K X ot [] ds H) ∨
     ∃ (α : Type) (sl : α -> List (Nat × AV)) (hp : α -> Hp) (pr : α -> Prop),
      vD C rd all σ (fun σ' ds' H' => ∃ x, pr x /\ Ent C n0 N σ' ds' H' (sets (fun _ => .junk) (sl x)) ds (hp x)) X ot [] ds H /\
      ∀ x, pr x -> K (sets (fun _ => .junk) (sl x)) ds (hp x)) :=
  ⟨_, h, .inr ⟨Unit, fun _ => sl, fun _ => hp, fun _ => True, by
    have e : (fun σ' ds' H' => ∃ _x : Unit, True /\ Ent C n0 N σ' ds' H' (sets (fun _ => .junk) sl) ds hp) = fun σ' ds' H' => Ent C n0 N σ' ds' H' (sets (fun _ => .junk) sl) ds hp := by
      funext a b c
      exact propext ⟨fun ⟨_, _, h⟩ => h, fun h => ⟨(), trivial, h⟩⟩
    rw [e]; exact hv, fun _ _ => hk⟩⟩
theorem Out.val {α:Type} {b:Bool} {p:Nat} {r:Rd α} {a a':α} {q:Nat} {b':Bool} (h:Out b p r a q b') (e:b'=false->a=a'):Out b p r a' q b':=by
 cases b'
 ·rw [<- e rfl];exact h
 ·cases b
  ·exact h
  ·exact h
set_option maxHeartbeats 4000000
abbrev TCk:TypeId:=87
abbrev qVw:TypeId:=60
def isO (l:List Iss):AObj:=⟨qVw,false, .pus (l.map Iss.cells)⟩
def fmO (es:List (List UInt8 × PV)):AObj:=⟨85,false, .ms es⟩
def ckO (ds:List De) (a:Int) (k n:Nat):AObj:=⟨TCk,false, .bx [.p (des ds), .p (i64 a), .mp 1, .sl k 3 0 n]⟩
abbrev ckS (ds:List De) (a:Nat) (es:List (List UInt8 × PV)) (l:List Iss):Hp:=⟨3,[(2,isO l),(1,fmO es),(0,ckO ds (a:Nat) 2 l.length)]⟩
abbrev ckT (ds:List De) (a:Nat) (es:List (List UInt8 × PV)) (l:List Iss):Hp:=⟨4,[(3,isO l),(1,fmO es),(0,ckO ds (a:Nat) 3 l.length)]⟩
structure CkS (ds:List De) (a:Nat) (es:List (List UInt8 × PV)):Prop where
 look:∀ nm,nm ≠ []->qBF es nm=(qBz (ds.take a) nm).map fun i=>i64 (i:Nat)
 len:ds.length<=30
 le:a<=ds.length
def ckQ (H:Hp) (v:PV) (e:AE) (H':Hp):Prop:=e=.returned (.p v)/\H'=H
theorem CkS.none {ds:List De} {a:Nat} {es:List (List UInt8 × PV)} (h:CkS ds a es) {nm:List UInt8} (hn:nm ≠ []) (hf:qCR (ds.take a) nm=none):qBF es nm=none:=by
 have:=h.look nm hn
 rw [qCR] at hf
 cases hi:qBz (ds.take a) nm with
 | none=>rw [hi] at this;exact this
 | some i=>rw [hi] at hf;cases hf
theorem CkS.some {ds:List De} {a:Nat} {es:List (List UInt8 × PV)} (h:CkS ds a es) {nm:List UInt8} (hn:nm ≠ []) {t:De} (hf:qCR (ds.take a) nm=some t):∃ i:Nat,qBF es nm=some (i64 (i:Nat))/\i<ds.length/\(ds.map De.cells)[i]?=Option.some t.cells:=by
 have:=h.look nm hn
 rw [qCR] at hf
 cases hi:qBz (ds.take a) nm with
 | none=>rw [hi] at hf;cases hf
 | some i=>
  rw [hi] at this hf
  obtain⟨hl,hv⟩:=qVL hi
  rw [qKa hi] at hv
  injection hv with hv
  injection hf with hf
  have hf:(ds.take a).getD i de0=t:=hf
  refine⟨i,this,hl,?_⟩
  have:=qDm hl
  rw [<- hv,hf] at this
  exact this
theorem qSE {ds:List De} {a:Nat} {es:List (List UInt8 × PV)} (b:Nat) (l:List Iss) (h:CkS ds a es) {nm:List UInt8} (hn:nm ≠ []):HoldsG cx 88 [.ptr 0 0 0, .p (.str nm)] (ckS ds b es l) (ckQ (ckS ds b es l) (i64 (qBT (ds.take a) nm))):=by
 cases hv:qCR (ds.take a) nm with
 | none=>
  have hs:qBT (ds.take a) nm=0:=by rw [qBT,hv]
  have hf:=h.none hn hv
  rw [hs]
  refine qAC Tryz.func88 rfl rfl rfl ?_
  refine⟨_, .inr ⟨hf,rfl⟩,?_⟩
  exact⟨[],[],[], .returned (.p (i64 0)),ckS ds b es l,rfl,sk,sk,rfl,rfl⟩
 | some t=>
  obtain⟨i,hf,hl,hc⟩:=h.some hn hv
  have hs:qBT (ds.take a) nm=if t.kind=2 then t.n else 0:=by rw [qBT,hv]
  rw [hs]
  refine qAC Tryz.func88 rfl rfl rfl ?_
  refine⟨_, .inl ⟨_,hf,rfl⟩,?_⟩
  refine⟨_,⟨by omega,t.cells,hc,rfl⟩,?_⟩
  refine QAD (fun h2=>?_) (fun h2=>?_)
  ·have h2:t.kind=2:=h2
   refine⟨_,⟨by omega,t.cells,hc,rfl⟩,?_⟩
   exact⟨[],[],[], .returned (.p (i64 t.n)),ckS ds b es l,rfl,sk,sk,by rw [if_pos h2],rfl⟩
  ·have h2:¬ t.kind=2:=h2
   exact⟨[],[],[], .returned (.p (i64 0)),ckS ds b es l,rfl,sk,sk,by rw [if_neg h2],rfl⟩
theorem qS8 {r:Rf} {nm pl:List UInt8} {m n:Int}:(r=⟨nm,m,pl,n⟩) ↔ (r.name=nm/\r.mode=m/\r.plate=pl/\r.n=n):=by
 obtain⟨a,b,c,d⟩:=r
 constructor
 ·intro h;injection h with h1 h2 h3 h4;exact⟨h1,h2,h3,h4⟩
 ·rintro⟨rfl,rfl,rfl,rfl⟩;rfl
theorem qEj {d:De} {r:Rf}:ownB d r=true ↔ d.kind=3/\¬ d.plate=[]/\r=⟨d.name,1,d.plate,if r.n<1 then 1 else r.n⟩:=by
 simp only [ownB,Bool.and_eq_true,decide_eq_true_eq,qS8]
 constructor
 ·rintro⟨h1,h2,h3,h4,h5,h6⟩
  exact⟨h1,h2,h3,h4,h5,by rw [if_neg (by omega)]⟩
 ·rintro⟨h1,h2,h3,h4,h5,h6⟩
  exact⟨h1,h2,h3,h4,h5,by split at h6 <;> omega⟩
theorem qUv (d:De) (r:Rf):Pure cx 141 [d.pv,r.pv] (·=.ret [.bool (ownB d r)]):=by
 have hb:∀ {b:Bool},(ownB d r=true ↔ b=true)->PEnd.ret [.bool b]=.ret [.bool (ownB d r)]:=fun h=>by rw [Bool.eq_iff_iff.2 h]
 refine qAB Tryz.func141 rfl rfl rfl ?_
 refine QAD (fun h1=>?_) (fun h1=>?_)
 rotate_left
 ·have h1:¬ d.kind=3:=h1
  exact qAF _ rfl rfl (hb ⟨fun h=>absurd (qEj.1 h).1 h1,fun h=>by cases h⟩)
 have h1:d.kind=3:=h1
 refine QAD (fun h2=>?_) (fun h2=>?_)
 ·have h2:d.plate=[]:=h2
  exact qAF _ rfl rfl (hb ⟨fun h=>absurd h2 (qEj.1 h).2.1,fun h=>by cases h⟩)
 have h2:¬ d.plate=[]:=h2
 refine⟨⟨by kernel_rfl,by kernel_rfl⟩,fun h3=>?_,fun h3=>?_⟩
 ·have h3:r=⟨d.name,1,d.plate,if r.n<1 then 1 else r.n⟩:=qDk (by first | exact h3 | (injection h3))
  exact qAF _ rfl rfl (hb ⟨fun _=>rfl,fun _=>qEj.2 ⟨h1,h2,h3⟩⟩)
 ·exact qAF _ rfl rfl (hb ⟨fun h=>absurd (congrArg Rf.cells (qEj.1 h).2.2) h3,fun h=>by cases h⟩)
def dcO (d:De):AObj:=⟨qHt,false, .bx (d.cells.map .p)⟩
def rfO (r:Rf):AObj:=⟨qQt,false, .bx (r.cells.map .p)⟩
def cnO (c:Cd):AObj:=⟨qK6,false, .bx (c.cells.map .p)⟩
theorem qDz {a b:Int} (h:a=b):AE.returned (.p (i64 a))=.returned (.p (i64 b)):=by rw [h]
theorem qG0 {ds:List De} {a:Nat} {es:List (List UInt8 × PV)} (l:List Iss) (h:CkS ds a es) (d:De) {r:Rf} (hn:r.name ≠ []):HoldsG cx 110 [.ptr 0 0 0, .p d.pv, .p r.pv] (ckS ds a es l) (ckQ (ckS ds a es l) (i64 (qF9 (ds.take a) d r))):=by
 obtain⟨R,hR⟩:∃ R,R=qF9 (ds.take a) d r:=⟨_,rfl⟩
 rw [<- hR]
 cases hv:qCR (ds.take a) r.name with
 | none=>
  have hf:=h.none hn hv
  have hO:=qUv d r
  rw [qF9,hv] at hR
  simp only [] at hR
  clear hv
  obtain⟨dk,dn,dnm,dpl,drs,dcs⟩:=d
  obtain⟨rn,rm,rp,ri⟩:=r
  refine qAC Tryz.func110 rfl rfl rfl ?_
  refine VDraw.seq rfl ?_
  refine⟨_, .inr ⟨hf,rfl⟩,?_⟩
  by_cases ho:ownB ⟨dk,dn,dnm,dpl,drs,dcs⟩ ⟨rn,rm,rp,ri⟩=true
  ·rw [ho] at hO
   rw [if_pos ho] at hR
   refine hO.eq rfl ?_
   exact⟨[],[],[], .returned (.p (i64 0)),ckS ds a es l,rfl,sk,sk,qDz hR.symm,rfl⟩
  ·rw [if_neg ho] at hR
   rw [Bool.not_eq_true] at ho
   rw [ho] at hO
   refine hO.eq rfl ?_
   exact⟨[],[],[], .returned (.p (i64 3)),ckS ds a es l,rfl,sk,sk,qDz hR.symm,rfl⟩
 | some t=>
  obtain⟨i,hf,hl,hc⟩:=h.some hn hv
  rw [qF9,hv] at hR
  simp only [] at hR
  clear hv
  obtain⟨dk,dn,dnm,dpl,drs,dcs⟩:=d
  obtain⟨rn,rm,rp,ri⟩:=r
  obtain⟨tk,tn,tnm,tpl,trs,tcs⟩:=t
  rw [qPa] at hR
  simp only [] at hR
  refine qAC Tryz.func110 rfl rfl rfl ?_
  refine VDraw.seq rfl ?_
  refine⟨_, .inl ⟨_,hf,rfl⟩,?_⟩
  refine⟨_,⟨by omega,(De.mk tk tn tnm tpl trs tcs).cells,hc,rfl⟩,?_⟩
  refine QAD (fun k2=>?_) (fun k2=>?_)
  ·have k2:tk=2:=k2
   rw [if_pos k2] at hR
   exact⟨[],[],[], .returned (.p (i64 4)),ckS ds a es l,rfl,sk,sk,qDz hR.symm,rfl⟩
  have k2:¬ tk=2:=k2
  rw [if_neg k2] at hR
  refine QAD (fun p0=>?_) (fun p0=>?_)
  ·have p0:tpl=[]:=p0
   rw [if_pos p0] at hR
   refine QAD (fun m0=>?_) (fun m0=>?_)
   ·have m0:rm=0:=m0
    rw [decide_eq_false (by omega)] at hR
    exact⟨[],[],[], .returned (.p (i64 0)),ckS ds a es l,rfl,sk,sk,qDz hR.symm,rfl⟩
   ·have m0:¬ rm=0:=m0
    rw [decide_eq_true m0] at hR
    exact⟨[],[],[], .returned (.p (i64 4)),ckS ds a es l,rfl,sk,sk,qDz hR.symm,rfl⟩
  have p0:¬ tpl=[]:=p0
  rw [if_neg p0] at hR
  refine QAD (fun m0=>?_) (fun m0=>?_)
  ·have m0:rm=0:=m0
   rw [if_pos m0] at hR
   exact⟨[],[],[], .returned (.p (i64 4)),ckS ds a es l,rfl,sk,sk,qDz hR.symm,rfl⟩
  have m0:¬ rm=0:=m0
  rw [if_neg m0] at hR
  refine QAD (fun m2=>?_) (fun m2=>?_)
  ·have m2:rm=2:=m2
   rw [if_pos m2] at hR
   refine VDraw.seq rfl ?_
   refine(qSE a l h p0).holds.useT [] [] rfl (sk) (sk) fun e0 H0 hq=>?_
   obtain⟨rfl,rfl⟩:=hq
   refine⟨rfl,_,⟨6,(2,isO l)::(1,fmO es)::(0,ckO ds (a:Nat) 2 l.length)::[(5,dcO ⟨tk,tn,tnm,tpl,trs,tcs⟩),(4,rfO ⟨rn,rm,rp,ri⟩),(3,dcO ⟨dk,dn,dnm,dpl,drs,dcs⟩)]⟩,rfl,rfl,?_⟩
   refine⟨sk,?_⟩
   refine QAD (fun g1=>?_) (fun g1=>?_)
   ·have g1:qBT (ds.take a) tpl<=ri:=g1
    rw [decide_eq_true g1] at hR
    exact⟨[],[],[], .returned (.p (i64 4)),ckS ds a es l,rfl,sk,sk,qDz hR.symm,rfl⟩
   ·have g1:¬ qBT (ds.take a) tpl<=ri:=g1
    rw [decide_eq_false g1] at hR
    exact⟨[],[],[], .returned (.p (i64 0)),ckS ds a es l,rfl,sk,sk,qDz hR.symm,rfl⟩
  have m2:¬ rm=2:=m2
  rw [if_neg m2] at hR
  refine QAD (fun m1=>?_) (fun m1=>?_)
  ·have m1:rm=1:=m1
   rw [if_pos m1] at hR
   refine QAD (fun q1=>?_) (fun q1=>?_)
   rotate_left
   ·have q1:¬ dk=3:=q1
    rw [decide_eq_true (show ¬ (dk=3/\dpl=tpl/\rp=tpl) from fun h=>q1 h.1)] at hR
    exact⟨[],[],[], .returned (.p (i64 4)),ckS ds a es l,rfl,sk,sk,qDz hR.symm,rfl⟩
   have q1:dk=3:=q1
   refine QAD (fun q2=>?_) (fun q2=>?_)
   rotate_left
   ·have q2:¬ dpl=tpl:=q2
    rw [decide_eq_true (show ¬ (dk=3/\dpl=tpl/\rp=tpl) from fun h=>q2 h.2.1)] at hR
    exact⟨[],[],[], .returned (.p (i64 4)),ckS ds a es l,rfl,sk,sk,qDz hR.symm,rfl⟩
   have q2:dpl=tpl:=q2
   refine QAD (fun q3=>?_) (fun q3=>?_)
   ·have q3:rp=tpl:=q3
    rw [decide_eq_false (show ¬ ¬ (dk=3/\dpl=tpl/\rp=tpl) from fun h=>h ⟨q1,q2,q3⟩)] at hR
    exact⟨[],[],[], .returned (.p (i64 0)),ckS ds a es l,rfl,sk,sk,qDz hR.symm,rfl⟩
   ·have q3:¬ rp=tpl:=q3
    rw [decide_eq_true (show ¬ (dk=3/\dpl=tpl/\rp=tpl) from fun h=>q3 h.2.2)] at hR
    exact⟨[],[],[], .returned (.p (i64 4)),ckS ds a es l,rfl,sk,sk,qDz hR.symm,rfl⟩
  ·have m1:¬ rm=1:=m1
   rw [if_neg m1] at hR
   exact⟨[],[],[], .returned (.p (i64 0)),ckS ds a es l,rfl,sk,sk,qDz hR.symm,rfl⟩
def qWr (ds:List De) (a:Nat) (es:List (List UInt8 × PV)) (l:List Iss) (v:Option Int) (e:AE) (H':Hp):Prop:=e=.returned (.tup [.p (i64 (v.getD 0)),vB v.isSome])/\H'=ckS ds a es l
theorem qQ6 {ds:List De} {a:Nat} {es:List (List UInt8 × PV)} (l:List Iss) (h:CkS ds a es) (d:De) {r:Rf} (hn:r.name ≠ []):HoldsG cx 142 [.ptr 0 0 0, .p d.pv, .p r.pv] (ckS ds a es l) (qWr ds a es l (qSv (ds.take a) d r)):=by
 obtain⟨R,hR⟩:∃ R,R=qSv (ds.take a) d r:=⟨_,rfl⟩
 rw [<- hR]
 cases hv:qCR (ds.take a) r.name with
 | none=>
  have hf:=h.none hn hv
  have hO:=qUv d r
  rw [qSv,hv] at hR
  simp only [] at hR
  clear hv
  obtain⟨dk,dn,dnm,dpl,drs,dcs⟩:=d
  obtain⟨rn,rm,rp,ri⟩:=r
  refine qAC Tryz.func142 rfl rfl rfl ?_
  refine VDraw.seq rfl ?_
  refine⟨_, .inr ⟨hf,rfl⟩,?_⟩
  by_cases ho:ownB ⟨dk,dn,dnm,dpl,drs,dcs⟩ ⟨rn,rm,rp,ri⟩=true
  ·rw [ho] at hO
   rw [if_pos ho] at hR
   subst hR
   refine hO.eq rfl ?_
   exact⟨[],[],[], .returned (.tup [.p (i64 dn),vB true]),ckS ds a es l,rfl,sk,sk,rfl,rfl⟩
  ·rw [if_neg ho] at hR
   rw [Bool.not_eq_true] at ho
   rw [ho] at hO
   subst hR
   refine hO.eq rfl ?_
   exact⟨[],[],[], .returned (.tup [.p (i64 0),vB false]),ckS ds a es l,rfl,sk,sk,rfl,rfl⟩
 | some t=>
  obtain⟨i,hf,hl,hc⟩:=h.some hn hv
  rw [qSv,hv] at hR
  simp only [] at hR
  clear hv
  obtain⟨dk,dn,dnm,dpl,drs,dcs⟩:=d
  obtain⟨rn,rm,rp,ri⟩:=r
  obtain⟨tk,tn,tnm,tpl,trs,tcs⟩:=t
  simp only [] at hR
  refine qAC Tryz.func142 rfl rfl rfl ?_
  refine VDraw.seq rfl ?_
  refine⟨_, .inl ⟨_,hf,rfl⟩,?_⟩
  refine⟨_,⟨by omega,(De.mk tk tn tnm tpl trs tcs).cells,hc,rfl⟩,?_⟩
  refine QAD (fun k2=>?_) (fun k2=>?_)
  ·have k2:tk=2:=k2
   rw [if_pos k2] at hR
   subst hR
   exact⟨[],[],[], .returned (.tup [.p (i64 0),vB false]),ckS ds a es l,rfl,sk,sk,rfl,rfl⟩
  ·have k2:¬ tk=2:=k2
   rw [if_neg k2] at hR
   subst hR
   refine⟨_,⟨by omega,(De.mk tk tn tnm tpl trs tcs).cells,hc,rfl⟩,?_⟩
   exact⟨[],[],[], .returned (.tup [.p (i64 tn),vB true]),ckS ds a es l,rfl,sk,sk,rfl,rfl⟩
theorem qR1 {ds:List De} {a:Nat} {es:List (List UInt8 × PV)} (l:List Iss) (h:CkS ds a es) (d:De) {op n rel val:Int} {r:Rf} {st:List Int} {ar:List Cd} (hn:r.name ≠ []) (hst:op=5->1<=st.length) (hsl:st.length<=100) (hdr:d.refs.length<=100):HoldsG cx 112 [.ptr 0 0 0, .p d.pv, .p (Cd.mk op n rel val r st ar).pv] (ckS ds a es l) (ckQ (ckS ds a es l) (i64 (qDQ (ds.take a) d op n val r st))):=by
 obtain⟨R,hR⟩:∃ R,R=qDQ (ds.take a) d op n val r st:=⟨_,rfl⟩
 rw [<- hR]
 have hVal:=qQ6 l h d hn
 obtain⟨dk,dn,dnm,dpl,drs,dcs⟩:=d
 have hdr:drs.length<=100:=hdr
 rw [qDQ] at hR
 cases hV:qSv (ds.take a) ⟨dk,dn,dnm,dpl,drs,dcs⟩ r with
 | none=>
  rw [hV] at hVal hR
  simp only [] at hR
  clear hV
  refine qAC Tryz.func112 rfl rfl rfl ?_
  refine⟨Nat,fun k=>[(0, .ptr 0 0 0),(4, .ptr 3 0 0),(5, .ptr 4 0 0),(7, .p (.bool false)),(14, .p (qBy drs)),(15, .p (i64 drs.length)),(16, .p (i64 k))],fun _=>⟨5,[(4,cnO (.mk op n rel val r st ar)),(3,dcO ⟨dk,dn,dnm,dpl,drs,dcs⟩),(2,isO l),(1,fmO es),(0,ckO ds (a:Nat) 2 l.length)]⟩,fun k=>k<=drs.length/\∀ x∈drs.take k,x ≠ r,fun k=>drs.length - k,?_,?_⟩
  ·exact⟨0,⟨Nat.zero_le _,by simp⟩,qAA [] [] [] rfl ⟨⟨rfl,rfl⟩,⟨rfl,rfl⟩,⟨rfl,rfl⟩,rfl,rfl,congrArg (fun n:Nat=>i64 n) (List.length_map ..).symm,rfl,trivial⟩ (sk) rfl⟩
  rintro k ⟨k1,k2⟩
  refine QAD (fun m1=>?_) (fun m1=>?_)
  rotate_left
  ·have m1:¬ (k:Int)<(drs.length:Nat):=m1
   rw [qAc (by omega)] at k2
   have hno:r ∉ drs:=fun hr=>k2 r hr rfl
   rw [if_pos hno] at hR
   exact⟨[],[],[], .returned (.p (i64 7)),ckS ds a es l,rfl,sk,sk,qDz hR.symm,rfl⟩
  have m1:(k:Int)<(drs.length:Nat):=m1
  have hk:k<drs.length:=by omega
  have hcell:=qC6 hk
  have hmem:=qAI rf0 hk
  have hnx:∀ x∈drs.take (k+1),x=drs.getD k rf0∨x∈drs.take k:=fun x hx=>by
   rw [qAE rf0 hk] at hx
   rcases List.mem_append.1 hx with hx | hx
   ·exact .inr hx
   ·exact .inl (List.mem_singleton.1 hx)
  generalize drs.getD k rf0=x at hcell hmem hnx
  refine⟨_,⟨by omega,x.cells,hcell,rfl⟩,?_⟩
  refine⟨⟨by kernel_rfl,by kernel_rfl⟩,fun e1=>?_,fun e1=>?_⟩
  rotate_left
  ·have e1:¬ x=r:=fun e=>e1 (by rw [e])
   refine⟨_,w6z,?_⟩
   refine⟨k+1,⟨by omega,fun y hy=>?_⟩,qAA [] [] [] rfl ⟨⟨rfl,rfl⟩,⟨rfl,rfl⟩,⟨rfl,rfl⟩,rfl,rfl,rfl,rfl,trivial⟩ (sk) rfl,by show drs.length - (k+1)<drs.length - k;omega⟩
   rcases hnx y hy with rfl | hy
   ·exact e1
   ·exact k2 y hy
  have e1:x=r:=qDk (by first | exact e1 | (injection e1))
  rw [e1] at hmem
  rw [if_neg (fun h=>h hmem)] at hR
  clear hnx hcell k2 m1 hk
  refine QAD (fun md=>?_) (fun md=>?_)
  ·have md:r.mode=3:=md
   refine QAD (fun o6=>?_) (fun o6=>?_)
   rotate_left
   ·have o6:¬ op=6:=o6
    rw [if_pos ⟨md,o6⟩] at hR
    exact⟨[],[],[], .returned (.p (i64 4)),ckS ds a es l,rfl,sk,sk,qDz hR.symm,rfl⟩
   have o6:op=6:=o6
   rw [if_neg (fun h=>h.2 o6)] at hR
   refine QAD (fun o5=>?_) (fun o5=>?_)
   ·have o5:op=5:=o5
    obtain⟨m,hm⟩:∃ m:Nat,st.length=m+1:=⟨st.length - 1,by have:=hst o5;omega⟩
    have hm1:((st.map i64).length:Int) - 1=(m:Nat):=by rw [List.length_map];omega
    have hmd:st.length - 1=m:=by omega
    refine⟨((m:Nat):Int),by show _=IntKind.i64.wrap (((st.map i64).length:Nat) - 1:Int);rw [hm1];exact w6z,?_⟩
    refine⟨_,⟨by omega,i64 (st.getD m 0),qCQ (by omega),rfl⟩,?_⟩
    refine hVal.holds.useT [] [] rfl (sk) (sk) fun e0 H0 hq=>?_
    obtain⟨rfl,rfl⟩:=hq
    refine⟨rfl,_,⟨6,(2,isO l)::(1,fmO es)::(0,ckO ds (a:Nat) 2 l.length)::[(5,rfO x),(4,cnO (.mk op n rel val r st ar)),(3,dcO ⟨dk,dn,dnm,dpl,drs,dcs⟩)]⟩,rfl,rfl,?_⟩
    exact⟨[],[],[], .returned (.p (i64 0)),ckS ds a es l,rfl,sk,sk,qDz (by rw [hR]),rfl⟩
   have o5:¬ op=5:=o5
   refine QAD (fun p6=>?_) (fun p6=>?_)
   ·have p6:op=6:=p6
    refine hVal.holds.useT [] [] rfl (sk) (sk) fun e0 H0 hq=>?_
    obtain⟨rfl,rfl⟩:=hq
    refine⟨rfl,_,⟨6,(2,isO l)::(1,fmO es)::(0,ckO ds (a:Nat) 2 l.length)::[(5,rfO x),(4,cnO (.mk op n rel val r st ar)),(3,dcO ⟨dk,dn,dnm,dpl,drs,dcs⟩)]⟩,rfl,rfl,?_⟩
    exact⟨[],[],[], .returned (.p (i64 0)),ckS ds a es l,rfl,sk,sk,qDz (by rw [hR]),rfl⟩
   have p6:¬ op=6:=p6
   refine hVal.holds.useT [] [] rfl (sk) (sk) fun e0 H0 hq=>?_
   obtain⟨rfl,rfl⟩:=hq
   refine⟨rfl,_,⟨6,(2,isO l)::(1,fmO es)::(0,ckO ds (a:Nat) 2 l.length)::[(5,rfO x),(4,cnO (.mk op n rel val r st ar)),(3,dcO ⟨dk,dn,dnm,dpl,drs,dcs⟩)]⟩,rfl,rfl,?_⟩
   exact⟨[],[],[], .returned (.p (i64 0)),ckS ds a es l,rfl,sk,sk,qDz (by rw [hR]),rfl⟩
  have md:¬ r.mode=3:=md
  rw [if_neg (fun h=>md h.1)] at hR
  refine QAD (fun o5=>?_) (fun o5=>?_)
  ·have o5:op=5:=o5
   obtain⟨m,hm⟩:∃ m:Nat,st.length=m+1:=⟨st.length - 1,by have:=hst o5;omega⟩
   have hm1:((st.map i64).length:Int) - 1=(m:Nat):=by rw [List.length_map];omega
   have hmd:st.length - 1=m:=by omega
   refine⟨((m:Nat):Int),by show _=IntKind.i64.wrap (((st.map i64).length:Nat) - 1:Int);rw [hm1];exact w6z,?_⟩
   refine⟨_,⟨by omega,i64 (st.getD m 0),qCQ (by omega),rfl⟩,?_⟩
   refine hVal.holds.useT [] [] rfl (sk) (sk) fun e0 H0 hq=>?_
   obtain⟨rfl,rfl⟩:=hq
   refine⟨rfl,_,⟨6,(2,isO l)::(1,fmO es)::(0,ckO ds (a:Nat) 2 l.length)::[(5,rfO x),(4,cnO (.mk op n rel val r st ar)),(3,dcO ⟨dk,dn,dnm,dpl,drs,dcs⟩)]⟩,rfl,rfl,?_⟩
   exact⟨[],[],[], .returned (.p (i64 0)),ckS ds a es l,rfl,sk,sk,qDz (by rw [hR]),rfl⟩
  have o5:¬ op=5:=o5
  refine QAD (fun p6=>?_) (fun p6=>?_)
  ·have p6:op=6:=p6
   refine hVal.holds.useT [] [] rfl (sk) (sk) fun e0 H0 hq=>?_
   obtain⟨rfl,rfl⟩:=hq
   refine⟨rfl,_,⟨6,(2,isO l)::(1,fmO es)::(0,ckO ds (a:Nat) 2 l.length)::[(5,rfO x),(4,cnO (.mk op n rel val r st ar)),(3,dcO ⟨dk,dn,dnm,dpl,drs,dcs⟩)]⟩,rfl,rfl,?_⟩
   exact⟨[],[],[], .returned (.p (i64 0)),ckS ds a es l,rfl,sk,sk,qDz (by rw [hR]),rfl⟩
  have p6:¬ op=6:=p6
  refine hVal.holds.useT [] [] rfl (sk) (sk) fun e0 H0 hq=>?_
  obtain⟨rfl,rfl⟩:=hq
  refine⟨rfl,_,⟨6,(2,isO l)::(1,fmO es)::(0,ckO ds (a:Nat) 2 l.length)::[(5,rfO x),(4,cnO (.mk op n rel val r st ar)),(3,dcO ⟨dk,dn,dnm,dpl,drs,dcs⟩)]⟩,rfl,rfl,?_⟩
  exact⟨[],[],[], .returned (.p (i64 0)),ckS ds a es l,rfl,sk,sk,qDz (by rw [hR]),rfl⟩
 | some kk=>
  rw [hV] at hVal hR
  simp only [] at hR
  clear hV
  refine qAC Tryz.func112 rfl rfl rfl ?_
  refine⟨Nat,fun k=>[(0, .ptr 0 0 0),(4, .ptr 3 0 0),(5, .ptr 4 0 0),(7, .p (.bool false)),(14, .p (qBy drs)),(15, .p (i64 drs.length)),(16, .p (i64 k))],fun _=>⟨5,[(4,cnO (.mk op n rel val r st ar)),(3,dcO ⟨dk,dn,dnm,dpl,drs,dcs⟩),(2,isO l),(1,fmO es),(0,ckO ds (a:Nat) 2 l.length)]⟩,fun k=>k<=drs.length/\∀ x∈drs.take k,x ≠ r,fun k=>drs.length - k,?_,?_⟩
  ·exact⟨0,⟨Nat.zero_le _,by simp⟩,qAA [] [] [] rfl ⟨⟨rfl,rfl⟩,⟨rfl,rfl⟩,⟨rfl,rfl⟩,rfl,rfl,congrArg (fun n:Nat=>i64 n) (List.length_map ..).symm,rfl,trivial⟩ (sk) rfl⟩
  rintro k ⟨k1,k2⟩
  refine QAD (fun m1=>?_) (fun m1=>?_)
  rotate_left
  ·have m1:¬ (k:Int)<(drs.length:Nat):=m1
   rw [qAc (by omega)] at k2
   have hno:r ∉ drs:=fun hr=>k2 r hr rfl
   rw [if_pos hno] at hR
   exact⟨[],[],[], .returned (.p (i64 7)),ckS ds a es l,rfl,sk,sk,qDz hR.symm,rfl⟩
  have m1:(k:Int)<(drs.length:Nat):=m1
  have hk:k<drs.length:=by omega
  have hcell:=qC6 hk
  have hmem:=qAI rf0 hk
  have hnx:∀ x∈drs.take (k+1),x=drs.getD k rf0∨x∈drs.take k:=fun x hx=>by
   rw [qAE rf0 hk] at hx
   rcases List.mem_append.1 hx with hx | hx
   ·exact .inr hx
   ·exact .inl (List.mem_singleton.1 hx)
  generalize drs.getD k rf0=x at hcell hmem hnx
  refine⟨_,⟨by omega,x.cells,hcell,rfl⟩,?_⟩
  refine⟨⟨by kernel_rfl,by kernel_rfl⟩,fun e1=>?_,fun e1=>?_⟩
  rotate_left
  ·have e1:¬ x=r:=fun e=>e1 (by rw [e])
   refine⟨_,w6z,?_⟩
   refine⟨k+1,⟨by omega,fun y hy=>?_⟩,qAA [] [] [] rfl ⟨⟨rfl,rfl⟩,⟨rfl,rfl⟩,⟨rfl,rfl⟩,rfl,rfl,rfl,rfl,trivial⟩ (sk) rfl,by show drs.length - (k+1)<drs.length - k;omega⟩
   rcases hnx y hy with rfl | hy
   ·exact e1
   ·exact k2 y hy
  have e1:x=r:=qDk (by first | exact e1 | (injection e1))
  rw [e1] at hmem
  rw [if_neg (fun h=>h hmem)] at hR
  clear hnx hcell k2 m1 hk
  refine QAD (fun md=>?_) (fun md=>?_)
  ·have md:r.mode=3:=md
   refine QAD (fun o6=>?_) (fun o6=>?_)
   rotate_left
   ·have o6:¬ op=6:=o6
    rw [if_pos ⟨md,o6⟩] at hR
    exact⟨[],[],[], .returned (.p (i64 4)),ckS ds a es l,rfl,sk,sk,qDz hR.symm,rfl⟩
   have o6:op=6:=o6
   rw [if_neg (fun h=>h.2 o6)] at hR
   refine QAD (fun o5=>?_) (fun o5=>?_)
   ·have o5:op=5:=o5
    obtain⟨m,hm⟩:∃ m:Nat,st.length=m+1:=⟨st.length - 1,by have:=hst o5;omega⟩
    have hm1:((st.map i64).length:Int) - 1=(m:Nat):=by rw [List.length_map];omega
    have hmd:st.length - 1=m:=by omega
    refine⟨((m:Nat):Int),by show _=IntKind.i64.wrap (((st.map i64).length:Nat) - 1:Int);rw [hm1];exact w6z,?_⟩
    refine⟨_,⟨by omega,i64 (st.getD m 0),qCQ (by omega),rfl⟩,?_⟩
    have hg:qDs op n val st=st.getD m 0:=by rw [qDs,if_pos o5,hmd]
    refine hVal.holds.useT [] [] rfl (sk) (sk) fun e0 H0 hq=>?_
    obtain⟨rfl,rfl⟩:=hq
    refine⟨rfl,_,⟨6,(2,isO l)::(1,fmO es)::(0,ckO ds (a:Nat) 2 l.length)::[(5,rfO x),(4,cnO (.mk op n rel val r st ar)),(3,dcO ⟨dk,dn,dnm,dpl,drs,dcs⟩)]⟩,rfl,rfl,?_⟩
    refine QAD (fun w1=>?_) (fun w1=>?_)
    ·have w1:kk<=st.getD m 0:=w1
     exact⟨[],[],[], .returned (.p (i64 8)),ckS ds a es l,rfl,sk,sk,qDz (by rw [hR,hg,if_pos w1]),rfl⟩
    ·have w1:¬ kk<=st.getD m 0:=w1
     exact⟨[],[],[], .returned (.p (i64 0)),ckS ds a es l,rfl,sk,sk,qDz (by rw [hR,hg,if_neg w1]),rfl⟩
   have o5:¬ op=5:=o5
   refine QAD (fun p6=>?_) (fun p6=>?_)
   ·have p6:op=6:=p6
    have hg:qDs op n val st=val:=by rw [qDs,if_neg o5,if_pos p6]
    refine hVal.holds.useT [] [] rfl (sk) (sk) fun e0 H0 hq=>?_
    obtain⟨rfl,rfl⟩:=hq
    refine⟨rfl,_,⟨6,(2,isO l)::(1,fmO es)::(0,ckO ds (a:Nat) 2 l.length)::[(5,rfO x),(4,cnO (.mk op n rel val r st ar)),(3,dcO ⟨dk,dn,dnm,dpl,drs,dcs⟩)]⟩,rfl,rfl,?_⟩
    refine QAD (fun w1=>?_) (fun w1=>?_)
    ·have w1:kk<=val:=w1
     exact⟨[],[],[], .returned (.p (i64 8)),ckS ds a es l,rfl,sk,sk,qDz (by rw [hR,hg,if_pos w1]),rfl⟩
    ·have w1:¬ kk<=val:=w1
     exact⟨[],[],[], .returned (.p (i64 0)),ckS ds a es l,rfl,sk,sk,qDz (by rw [hR,hg,if_neg w1]),rfl⟩
   have p6:¬ op=6:=p6
   have hg:qDs op n val st=n:=by rw [qDs,if_neg o5,if_neg p6]
   refine hVal.holds.useT [] [] rfl (sk) (sk) fun e0 H0 hq=>?_
   obtain⟨rfl,rfl⟩:=hq
   refine⟨rfl,_,⟨6,(2,isO l)::(1,fmO es)::(0,ckO ds (a:Nat) 2 l.length)::[(5,rfO x),(4,cnO (.mk op n rel val r st ar)),(3,dcO ⟨dk,dn,dnm,dpl,drs,dcs⟩)]⟩,rfl,rfl,?_⟩
   refine QAD (fun w1=>?_) (fun w1=>?_)
   ·have w1:kk<=n:=w1
    exact⟨[],[],[], .returned (.p (i64 8)),ckS ds a es l,rfl,sk,sk,qDz (by rw [hR,hg,if_pos w1]),rfl⟩
   ·have w1:¬ kk<=n:=w1
    exact⟨[],[],[], .returned (.p (i64 0)),ckS ds a es l,rfl,sk,sk,qDz (by rw [hR,hg,if_neg w1]),rfl⟩
  have md:¬ r.mode=3:=md
  rw [if_neg (fun h=>md h.1)] at hR
  refine QAD (fun o5=>?_) (fun o5=>?_)
  ·have o5:op=5:=o5
   obtain⟨m,hm⟩:∃ m:Nat,st.length=m+1:=⟨st.length - 1,by have:=hst o5;omega⟩
   have hm1:((st.map i64).length:Int) - 1=(m:Nat):=by rw [List.length_map];omega
   have hmd:st.length - 1=m:=by omega
   refine⟨((m:Nat):Int),by show _=IntKind.i64.wrap (((st.map i64).length:Nat) - 1:Int);rw [hm1];exact w6z,?_⟩
   refine⟨_,⟨by omega,i64 (st.getD m 0),qCQ (by omega),rfl⟩,?_⟩
   have hg:qDs op n val st=st.getD m 0:=by rw [qDs,if_pos o5,hmd]
   refine hVal.holds.useT [] [] rfl (sk) (sk) fun e0 H0 hq=>?_
   obtain⟨rfl,rfl⟩:=hq
   refine⟨rfl,_,⟨6,(2,isO l)::(1,fmO es)::(0,ckO ds (a:Nat) 2 l.length)::[(5,rfO x),(4,cnO (.mk op n rel val r st ar)),(3,dcO ⟨dk,dn,dnm,dpl,drs,dcs⟩)]⟩,rfl,rfl,?_⟩
   refine QAD (fun w1=>?_) (fun w1=>?_)
   ·have w1:kk<=st.getD m 0:=w1
    exact⟨[],[],[], .returned (.p (i64 8)),ckS ds a es l,rfl,sk,sk,qDz (by rw [hR,hg,if_pos w1]),rfl⟩
   ·have w1:¬ kk<=st.getD m 0:=w1
    exact⟨[],[],[], .returned (.p (i64 0)),ckS ds a es l,rfl,sk,sk,qDz (by rw [hR,hg,if_neg w1]),rfl⟩
  have o5:¬ op=5:=o5
  refine QAD (fun p6=>?_) (fun p6=>?_)
  ·have p6:op=6:=p6
   have hg:qDs op n val st=val:=by rw [qDs,if_neg o5,if_pos p6]
   refine hVal.holds.useT [] [] rfl (sk) (sk) fun e0 H0 hq=>?_
   obtain⟨rfl,rfl⟩:=hq
   refine⟨rfl,_,⟨6,(2,isO l)::(1,fmO es)::(0,ckO ds (a:Nat) 2 l.length)::[(5,rfO x),(4,cnO (.mk op n rel val r st ar)),(3,dcO ⟨dk,dn,dnm,dpl,drs,dcs⟩)]⟩,rfl,rfl,?_⟩
   refine QAD (fun w1=>?_) (fun w1=>?_)
   ·have w1:kk<=val:=w1
    exact⟨[],[],[], .returned (.p (i64 8)),ckS ds a es l,rfl,sk,sk,qDz (by rw [hR,hg,if_pos w1]),rfl⟩
   ·have w1:¬ kk<=val:=w1
    exact⟨[],[],[], .returned (.p (i64 0)),ckS ds a es l,rfl,sk,sk,qDz (by rw [hR,hg,if_neg w1]),rfl⟩
  have p6:¬ op=6:=p6
  have hg:qDs op n val st=n:=by rw [qDs,if_neg o5,if_neg p6]
  refine hVal.holds.useT [] [] rfl (sk) (sk) fun e0 H0 hq=>?_
  obtain⟨rfl,rfl⟩:=hq
  refine⟨rfl,_,⟨6,(2,isO l)::(1,fmO es)::(0,ckO ds (a:Nat) 2 l.length)::[(5,rfO x),(4,cnO (.mk op n rel val r st ar)),(3,dcO ⟨dk,dn,dnm,dpl,drs,dcs⟩)]⟩,rfl,rfl,?_⟩
  refine QAD (fun w1=>?_) (fun w1=>?_)
  ·have w1:kk<=n:=w1
   exact⟨[],[],[], .returned (.p (i64 8)),ckS ds a es l,rfl,sk,sk,qDz (by rw [hR,hg,if_pos w1]),rfl⟩
  ·have w1:¬ kk<=n:=w1
   exact⟨[],[],[], .returned (.p (i64 0)),ckS ds a es l,rfl,sk,sk,qDz (by rw [hR,hg,if_neg w1]),rfl⟩
def nQ (ds:List De) (a:Nat) (es:List (List UInt8 × PV)) (l:List Iss) (e:AE) (H':Hp):Prop:=e=.returned und/\H'=ckT ds a es l
abbrev qWB:OT:=(.pure 0 (.pure 1 (.pure 2 (.pure 3 (.pure 4 (.pure 5 (.pure 6 (.eff 7 [] (.pure 8 (.pure 9 (.eff 10 [] .fin .nil))) .nil))))))))
theorem qCf (ds:List De) (a:Nat) (es:List (List UInt8 × PV)) (l:List Iss) (k:Int) (nm:List UInt8) (hl:l.length<=100000):HoldsG cx 48 [.ptr 0 0 0, .p (i64 k), .p (.lst [.str nm])] (ckS ds a es l) (nQ ds a es (l++[⟨k,a,nm⟩])):=by
 refine qAC Tryz.func48 rfl rfl rfl ?_
 refine⟨Nat,fun i=>[(0, .ptr 0 0 0),(6, .ptr 3 0 0),(15, .p (.lst [.str nm])),(16, .p (i64 1)),(17, .p (i64 i))],fun i=>⟨4,[(3,⟨qVw,false, .bx [.p (i64 k), .p (i64 (a:Nat)), .p (.str (if i=0 then [] else nm))]⟩),(2,isO l),(1,fmO es),(0,ckO ds (a:Nat) 2 l.length)]⟩,fun i=>i<=1,fun i=>1 - i,?_,?_⟩
 ·exact⟨0,by omega,qAA [] [] [] rfl (sk) (sk) rfl⟩
 intro i hi
 refine QAD (fun h1=>?_) (fun h1=>?_)
 ·have h1:(i:Int)<1:=h1
  obtain rfl:i=0:=by omega
  refine⟨_,⟨by omega, .str nm,rfl,rfl⟩,?_⟩
  refine⟨_,w6z,?_⟩
  exact⟨1,by omega,qAA [] [] [] rfl (sk) (sk) rfl,by decide⟩
 ·have h1:¬ (i:Int)<1:=h1
  obtain rfl:i=1:=by omega
  refine qAG qWB (by kernel_rfl) ?_
  refine⟨by show 0+l.length<=(l.map Iss.cells).length;simp,l.map Iss.cells,qAD (by simp),by show(l.length+1) * 32<=140737488355328;omega,(l++[(Iss.mk k (a:Nat) nm)]).map Iss.cells,by rw [List.map_append];rfl,?_⟩
  exact⟨[],[(3,4)],[], .returned und,ckT ds a es (l++[(Iss.mk k (a:Nat) nm)]),rfl,sk,⟨⟨_,rfl,rfl,rfl,rfl⟩,⟨_,rfl,rfl,rfl,rfl⟩,⟨_,rfl,rfl,rfl,_,rfl,_,_,rfl,rfl,_,_,rfl,rfl,_,_,rfl,sk,_,_,rfl,congrArg (fun k:Nat=>AV.sl 4 3 0 k) (qAN l (Iss.mk k (a:Nat) nm)).symm,rfl⟩,trivial⟩,rfl,rfl⟩
theorem qFk (ds:List De) (a:Nat) (es:List (List UInt8 × PV)) (l:List Iss) (k:Int) (hl:l.length<=100000):HoldsG cx 48 [.ptr 0 0 0, .p (i64 k), .p .nils] (ckS ds a es l) (nQ ds a es (l++[⟨k,a,[]⟩])):=by
 refine qAC Tryz.func48 rfl rfl rfl ?_
 refine⟨Unit,fun _=>[(0, .ptr 0 0 0),(6, .ptr 3 0 0),(15, .p .nils),(16, .p (i64 0)),(17, .p (i64 0))],fun _=>⟨4,[(3,⟨qVw,false, .bx [.p (i64 k), .p (i64 (a:Nat)), .p (.str [])]⟩),(2,isO l),(1,fmO es),(0,ckO ds (a:Nat) 2 l.length)]⟩,fun _=>True,fun _=>0,?_,?_⟩
 ·exact⟨(),trivial,qAA [] [] [] rfl (sk) (sk) rfl⟩
 intro _ _
 refine And.intro (fun h=>absurd (show(0:Int)<0 from h) (by decide)) (fun _=>?_)
 refine qAG qWB (by kernel_rfl) ?_
 refine⟨by show 0+l.length<=(l.map Iss.cells).length;simp,l.map Iss.cells,qAD (by simp),by show(l.length+1) * 32<=140737488355328;omega,(l++[(Iss.mk k (a:Nat) [])]).map Iss.cells,by rw [List.map_append];rfl,?_⟩
 exact⟨[],[(3,4)],[], .returned und,ckT ds a es (l++[(Iss.mk k (a:Nat) [])]),rfl,sk,⟨⟨_,rfl,rfl,rfl,rfl⟩,⟨_,rfl,rfl,rfl,rfl⟩,⟨_,rfl,rfl,rfl,_,rfl,_,_,rfl,rfl,_,_,rfl,rfl,_,_,rfl,sk,_,_,rfl,congrArg (fun k:Nat=>AV.sl 4 3 0 k) (qAN l (Iss.mk k (a:Nat) [])).symm,rfl⟩,trivial⟩,rfl,rfl⟩
def sfO (nm:List UInt8):AObj:=⟨qWU,true, .pu [.str nm]⟩
theorem qLF {ds:List De} {a:Nat} {es:List (List UInt8 × PV)} (l:List Iss) (h:CkS ds a es) (d:De) (hn:d.name ≠ []) (hl:l.length<=100000):HoldsG cx 81 [.ptr 0 0 0, .p (.str d.name)] (ckS ds a es l) (nQ ds a es (l++qA7 (ds.take a) d)):=by
 have hf:=h.look d.name hn
 have hal:(ds.take a).length=a:=by rw [List.length_take];have:=h.le;omega
 cases hi:qBz (ds.take a) d.name with
 | none=>
  rw [hi] at hf
  have ht:qA7 (ds.take a) d=[]:=by rw [qA7,hi];rfl
  rw [ht,List.append_nil]
  refine qAC Tryz.func81 rfl rfl rfl ?_
  refine⟨_, .inr ⟨hf,rfl⟩,?_⟩
  exact⟨[],[(3,2)],[], .returned und,ckT ds a es l,rfl,sk,sk,rfl,rfl⟩
 | some i=>
  rw [hi] at hf
  have ht:qA7 (ds.take a) d=[⟨2,a,d.name⟩]:=by rw [qA7,hi,hal];rfl
  rw [ht]
  generalize d.name=nm at hf
  refine qAC Tryz.func81 rfl rfl rfl ?_
  refine⟨_, .inl ⟨_,hf,rfl⟩,?_⟩
  refine(qCf ds a es (l) 2 nm (by first | omega | (simp only [List.length_append,List.length_cons,List.length_nil];omega))).holds.useT [3] [] rfl (sk) ⟨_,_,rfl,⟨rfl,rfl⟩,_,_,rfl,rfl,_,_,rfl,⟨_,rfl,by show 0+1<=1;decide,rfl⟩,rfl⟩ fun e0 H0 hq=>?_
  obtain⟨rfl,rfl⟩:=hq
  refine⟨rfl,_,⟨5,(4,isO ((l)++[Iss.mk 2 (a:Nat) nm]))::(1,fmO es)::(0,ckO ds (a:Nat) 4 ((l)++[Iss.mk 2 (a:Nat) nm]).length)::[(3,sfO nm)]⟩,rfl,rfl,?_⟩
  exact⟨[],[(3,4)],[], .returned und,ckT ds a es (l++[⟨2,a,nm⟩]),rfl,sk,sk,rfl,rfl⟩
theorem CkS.tk {ds:List De} {a:Nat} {es:List (List UInt8 × PV)} (h:CkS ds a es):(ds.take a).length=a:=by rw [List.length_take];have:=h.le;omega
theorem qSh {ds:List De} {a:Nat} {es:List (List UInt8 × PV)} (l:List Iss) (h:CkS ds a es) (d:De) (hl:l.length<=100000):HoldsG cx 82 [.ptr 0 0 0, .p d.pv] (ckS ds a es l) (nQ ds a es (l++qAd (ds.take a) d)):=by
 obtain⟨R,hR⟩:∃ R,R=l++qAd (ds.take a) d:=⟨_,rfl⟩
 rw [<- hR]
 rw [qAd,h.tk] at hR
 obtain⟨dk,dn,dnm,dpl,drs,dcs⟩:=d
 simp only [] at hR
 refine qAC Tryz.func82 rfl rfl rfl ?_
 refine QAD (fun h1=>?_) (fun h1=>?_)
 ·have h1:dn<2:=h1
  rw [if_pos (.inl h1)] at hR
  refine(qCf ds a es (l) 6 dnm (by first | omega | (simp only [List.length_append,List.length_cons,List.length_nil];omega))).holds.useT [4] [] rfl (sk) ⟨_,_,rfl,⟨rfl,rfl⟩,_,_,rfl,rfl,_,_,rfl,⟨_,rfl,by show 0+1<=1;decide,rfl⟩,rfl⟩ fun e0 H0 hq=>?_
  obtain⟨rfl,rfl⟩:=hq
  refine⟨rfl,_,⟨6,(5,isO ((l)++[Iss.mk 6 (a:Nat) dnm]))::(1,fmO es)::(0,ckO ds (a:Nat) 5 ((l)++[Iss.mk 6 (a:Nat) dnm]).length)::[(4,sfO dnm),(3,dcO ⟨dk,dn,dnm,dpl,drs,dcs⟩)]⟩,rfl,rfl,?_⟩
  exact⟨[],[(3,5)],[], .returned und,ckT ds a es (l++[Iss.mk 6 (a:Nat) dnm]),rfl,sk,sk,rfl,by rw [hR]⟩
 have h1:¬ dn<2:=h1
 refine QAD (fun h2=>?_) (fun h2=>?_)
 ·have h2:4<dn:=h2
  rw [if_pos (.inr h2)] at hR
  refine(qCf ds a es (l) 6 dnm (by first | omega | (simp only [List.length_append,List.length_cons,List.length_nil];omega))).holds.useT [4] [] rfl (sk) ⟨_,_,rfl,⟨rfl,rfl⟩,_,_,rfl,rfl,_,_,rfl,⟨_,rfl,by show 0+1<=1;decide,rfl⟩,rfl⟩ fun e0 H0 hq=>?_
  obtain⟨rfl,rfl⟩:=hq
  refine⟨rfl,_,⟨6,(5,isO ((l)++[Iss.mk 6 (a:Nat) dnm]))::(1,fmO es)::(0,ckO ds (a:Nat) 5 ((l)++[Iss.mk 6 (a:Nat) dnm]).length)::[(4,sfO dnm),(3,dcO ⟨dk,dn,dnm,dpl,drs,dcs⟩)]⟩,rfl,rfl,?_⟩
  exact⟨[],[(3,5)],[], .returned und,ckT ds a es (l++[Iss.mk 6 (a:Nat) dnm]),rfl,sk,sk,rfl,by rw [hR]⟩
 ·have h2:¬ 4<dn:=h2
  rw [if_neg (by omega),List.append_nil] at hR
  exact⟨[],[(3,2)],[], .returned und,ckT ds a es (l),rfl,sk,sk,rfl,by rw [hR]⟩
abbrev qXG:OT:=(.pure 0 (.pure 1 (.pure 2 (.pure 3 (.pure 4 (.pure 5 .fin))))))
theorem qRG (l:List Rf) (r:Rf) (hl:l.length<=9223372036854775807):Pure cx 109 [qBy l,r.pv] (·=.ret [.bool (decide (r∈l))]):=by
 have hI:Pure cx 140 [qBy l,r.pv] fun e=>∃ n:Int,e=.ret [i64 n]/\(0<=n ↔ r∈l):=by
  obtain⟨rn,rm,rp,ri⟩:=r
  refine qAB Tryz.func140 rfl rfl rfl ?_
  refine⟨Nat,fun k=>[(0, .p (qBy l)),(3, .ptr 0 0 0),(7, .p (i64 l.length)),(8, .p (i64 k))],fun _=>⟨1,[(0,rfO ⟨rn,rm,rp,ri⟩)]⟩,fun k=>k<=l.length/\∀ x∈l.take k,x ≠ ⟨rn,rm,rp,ri⟩,fun k=>l.length - k,?_,?_⟩
  ·exact⟨0,⟨Nat.zero_le _,by simp⟩,qAA [] [] [] rfl ⟨rfl,⟨rfl,rfl⟩,congrArg (fun n:Nat=>i64 n) (List.length_map ..).symm,rfl,trivial⟩ (sk) rfl⟩
  rintro k ⟨k1,k2⟩
  refine QAD (fun m1=>?_) (fun m1=>?_)
  rotate_left
  ·have m1:¬ (k:Int)<(l.length:Nat):=m1
   rw [qAc (by omega)] at k2
   exact qAF _ rfl rfl ⟨-1,rfl,⟨fun h=>absurd h (by decide),fun h=>absurd rfl (k2 _ h)⟩⟩
  have m1:(k:Int)<(l.length:Nat):=m1
  have hk:k<l.length:=by omega
  have hcell:=qC6 hk
  have hmem:=qAI rf0 hk
  have hnx:∀ x∈l.take (k+1),x=l.getD k rf0∨x∈l.take k:=fun x hx=>by
   rw [qAE rf0 hk] at hx
   rcases List.mem_append.1 hx with hx | hx
   ·exact .inr hx
   ·exact .inl (List.mem_singleton.1 hx)
  generalize l.getD k rf0=x at hcell hmem hnx
  refine qAG qXG (by kernel_rfl) ?_
  refine⟨_,⟨by omega,x.cells,hcell,rfl⟩,?_⟩
  refine⟨⟨by kernel_rfl,by kernel_rfl⟩,fun e1=>?_,fun e1=>?_⟩
  ·have e1:⟨rn,rm,rp,ri⟩=x:=qDk (by first | exact e1 | (injection e1))
   exact qAF _ rfl rfl ⟨(k:Nat),rfl,⟨fun _=>by rw [e1];exact hmem,fun _=>by omega⟩⟩
  ·have e1:¬ x=⟨rn,rm,rp,ri⟩:=fun e=>e1 (by rw [e])
   refine⟨_,w6z,?_⟩
   refine⟨k+1,⟨by omega,fun y hy=>?_⟩,qAA [] [] [] rfl (sk) (sk) rfl,by show l.length - (k+1)<l.length - k;omega⟩
   rcases hnx y hy with rfl | hy
   ·exact e1
   ·exact k2 y hy
 obtain⟨rn,rm,rp,ri⟩:=r
 refine qAB Tryz.func109 rfl rfl rfl ?_
 refine hI.at fun e he=>?_
 obtain⟨n,rfl,hn⟩:=he
 refine QAD (fun g=>?_) (fun g=>?_)
 ·have g:(0:Int)<=n:=g
  exact qAF _ rfl rfl (qAO (decide_eq_true (hn.1 g)).symm)
 ·have g:¬ (0:Int)<=n:=g
  exact qAF _ rfl rfl (qAO (decide_eq_false fun h=>g (hn.2 h)).symm)
set_option maxHeartbeats 40000000
abbrev qXD:OT:=(.pure 0 (.pure 1 (.pure 2 (.pure 3 (.pure 4 (.eff 5 [] .fin .nil))))))
theorem qJg {ds:List De} {a:Nat} {es:List (List UInt8 × PV)} (l:List Iss) (h:CkS ds a es) (d:De) (hr:∀ r∈d.refs,r.name ≠ []) (hdr:d.refs.length<=100) (hl:l.length<=90000):HoldsG cx 83 [.ptr 0 0 0, .p d.pv] (ckS ds a es l) (nQ ds a es (l++qAQ (ds.take a) d [] d.refs)):=by
 obtain⟨dk,dn,dnm,dpl,drs,dcs⟩:=d
 have hdr:drs.length<=100:=hdr
 have hr:∀ r∈drs,r.name ≠ []:=hr
 obtain⟨R,hR⟩:∃ R,R=l++qAQ (ds.take a) ⟨dk,dn,dnm,dpl,drs,dcs⟩ [] drs:=⟨_,rfl⟩
 show HoldsG cx _ _ _ (nQ ds a es (l++qAQ (ds.take a) ⟨dk,dn,dnm,dpl,drs,dcs⟩ [] drs))
 rw [<- hR]
 refine qAC Tryz.func83 rfl rfl rfl ?_
 refine⟨Nat × List Iss,fun x=>[(0, .ptr 0 0 0),(3, .ptr 4 0 0),(8, .p (qBy drs)),(9, .p (i64 drs.length)),(10, .p (i64 x.1))],fun x=>⟨5,[(4,dcO ⟨dk,dn,dnm,dpl,drs,dcs⟩),(3,isO x.2),(1,fmO es),(0,ckO ds (a:Nat) 3 x.2.length)]⟩,fun x=>x.1<=drs.length/\x.2.length<=l.length+2 * x.1/\R=x.2++qAQ (ds.take a) ⟨dk,dn,dnm,dpl,drs,dcs⟩ (drs.take x.1) (drs.drop x.1),fun x=>drs.length - x.1,?_,?_⟩
 ·exact⟨(0,l),⟨Nat.zero_le _,by simp,hR⟩,qAA [] [(3,2),(4,3)] [] rfl ⟨⟨rfl,rfl⟩,⟨rfl,rfl⟩,rfl,congrArg (fun n:Nat=>i64 n) (List.length_map ..).symm,rfl,trivial⟩ (sk) rfl⟩
 rintro⟨k,cur⟩ ⟨k1,k2,k3⟩
 simp only [] at k1 k2 k3
 refine QAD (fun m1=>?_) (fun m1=>?_)
 rotate_left
 ·have m1:¬ (k:Int)<(drs.length:Nat):=m1
  rw [List.drop_eq_nil_of_le (by omega),qAQ,List.append_nil] at k3
  exact⟨[],[(3,3)],[], .returned und,ckT ds a es cur,rfl,sk,sk,rfl,by rw [k3]⟩
 have m1:(k:Int)<(drs.length:Nat):=m1
 have hk:k<drs.length:=by omega
 have hcell:=qC6 hk
 have hxn:=hr _ (qAI rf0 hk)
 have hstep:qAQ (ds.take a) ⟨dk,dn,dnm,dpl,drs,dcs⟩ (drs.take k) (drs.drop k)=(if drs.getD k rf0∈drs.take k then [⟨2,a,(drs.getD k rf0).name⟩] else [])++(qBb (qF9 (ds.take a) ⟨dk,dn,dnm,dpl,drs,dcs⟩ (drs.getD k rf0)) a (drs.getD k rf0).name++qAQ (ds.take a) ⟨dk,dn,dnm,dpl,drs,dcs⟩ (drs.take (k+1)) (drs.drop (k+1))):=by
  rw [qBt rf0 hk,qAQ,h.tk,qAE rf0 hk]
 generalize drs.getD k rf0=x at hcell hxn hstep
 have hC:=qRG (drs.take k) x (by rw [List.length_take];omega)
 have ea:[qBy (drs.take k),x.pv]=[PV.lsts 4 ((drs.map Rf.cells).take ((k:Nat):Int).toNat),x.pv]:=by show [PV.lsts 4 ((drs.take k).map Rf.cells),x.pv]=_;rw [List.map_take];rfl
 rw [ea] at hC
 refine⟨_,⟨by omega,x.cells,hcell,rfl⟩,?_⟩
 refine qAG qXD (by kernel_rfl) ?_
 refine⟨by show(0:Int)<=(k:Nat)/\((k:Nat):Int)<=((drs.map Rf.cells).length:Nat);rw [List.length_map];omega,?_⟩
 by_cases hm:x∈drs.take k
 ·rw [decide_eq_true hm] at hC
  rw [if_pos hm] at hstep
  refine hC.eq rfl ?_
  refine(qCf ds a es (cur) 2 x.name (by first | omega | (simp only [List.length_append,List.length_cons,List.length_nil];omega))).holds.useT [6] [(2,3)] rfl (sk) ⟨_,_,rfl,⟨rfl,rfl⟩,_,_,rfl,rfl,_,_,rfl,⟨_,rfl,by show 0+1<=1;decide,rfl⟩,rfl⟩ fun e0 H0 hq=>?_
  obtain⟨rfl,rfl⟩:=hq
  refine⟨rfl,_,⟨8,(7,isO ((cur)++[Iss.mk 2 (a:Nat) x.name]))::(1,fmO es)::(0,ckO ds (a:Nat) 7 ((cur)++[Iss.mk 2 (a:Nat) x.name]).length)::[(6,sfO x.name),(5,rfO x),(4,dcO ⟨dk,dn,dnm,dpl,drs,dcs⟩)]⟩,rfl,rfl,?_⟩
  refine(qG0 (cur++[Iss.mk 2 (a:Nat) x.name]) h ⟨dk,dn,dnm,dpl,drs,dcs⟩ hxn).holds.useT [] [(2,7)] rfl (sk) (sk) fun e0 H0 hq=>?_
  obtain⟨rfl,rfl⟩:=hq
  refine⟨rfl,_,⟨8,(7,isO (cur++[Iss.mk 2 (a:Nat) x.name]))::(1,fmO es)::(0,ckO ds (a:Nat) 7 (cur++[Iss.mk 2 (a:Nat) x.name]).length)::[(6,sfO x.name),(5,rfO x),(4,dcO ⟨dk,dn,dnm,dpl,drs,dcs⟩)]⟩,rfl,rfl,?_⟩
  refine And.intro (fun z=>?_) (fun z=>?_)
  ·have z:qF9 (ds.take a) ⟨dk,dn,dnm,dpl,drs,dcs⟩ x=0:=z
   rw [z] at hstep
   refine⟨((k+1:Nat):Int),by rw [Int.natCast_add];exact w6z,?_⟩
   exact⟨(k+1,cur++[Iss.mk 2 (a:Nat) x.name]),⟨by show k+1<=drs.length;omega,by show(cur++[Iss.mk 2 (a:Nat) x.name]).length<=l.length+2 * (k+1);(first | omega | (simp only [List.length_append,List.length_cons,List.length_nil];omega)),by rw [k3];rw [hstep,List.append_assoc];rfl⟩,qAA [] [(3,7),(4,4)] [] rfl (sk) (sk) rfl,by show drs.length - (k+1)<drs.length - k;omega⟩
  ·have z:¬ qF9 (ds.take a) ⟨dk,dn,dnm,dpl,drs,dcs⟩ x=0:=z
   rw [qBb,if_neg z] at hstep
   generalize qF9 (ds.take a) ⟨dk,dn,dnm,dpl,drs,dcs⟩ x=kk at hstep
   refine(qCf ds a es (cur++[Iss.mk 2 (a:Nat) x.name]) kk x.name (by first | omega | (simp only [List.length_append,List.length_cons,List.length_nil];omega))).holds.useT [8] [(2,7)] rfl (sk) ⟨_,_,rfl,⟨rfl,rfl⟩,_,_,rfl,rfl,_,_,rfl,⟨_,rfl,by show 0+1<=1;decide,rfl⟩,rfl⟩ fun e0 H0 hq=>?_
   obtain⟨rfl,rfl⟩:=hq
   refine⟨rfl,_,⟨10,(9,isO ((cur++[Iss.mk 2 (a:Nat) x.name])++[Iss.mk kk (a:Nat) x.name]))::(1,fmO es)::(0,ckO ds (a:Nat) 9 ((cur++[Iss.mk 2 (a:Nat) x.name])++[Iss.mk kk (a:Nat) x.name]).length)::((8,sfO x.name)::[(6,sfO x.name),(5,rfO x),(4,dcO ⟨dk,dn,dnm,dpl,drs,dcs⟩)])⟩,rfl,rfl,?_⟩
   refine⟨((k+1:Nat):Int),by rw [Int.natCast_add];exact w6z,?_⟩
   exact⟨(k+1,(cur++[Iss.mk 2 (a:Nat) x.name])++[Iss.mk kk (a:Nat) x.name]),⟨by show k+1<=drs.length;omega,by show((cur++[Iss.mk 2 (a:Nat) x.name])++[Iss.mk kk (a:Nat) x.name]).length<=l.length+2 * (k+1);(first | omega | (simp only [List.length_append,List.length_cons,List.length_nil];omega)),by rw [k3];rw [hstep];simp [List.append_assoc]⟩,qAA [] [(3,9),(4,4)] [] rfl (sk) (sk) rfl,by show drs.length - (k+1)<drs.length - k;omega⟩
 ·rw [decide_eq_false hm] at hC
  rw [if_neg hm] at hstep
  refine hC.eq rfl ?_
  refine(qG0 (cur) h ⟨dk,dn,dnm,dpl,drs,dcs⟩ hxn).holds.useT [] [(2,3)] rfl (sk) (sk) fun e0 H0 hq=>?_
  obtain⟨rfl,rfl⟩:=hq
  refine⟨rfl,_,⟨6,(3,isO (cur))::(1,fmO es)::(0,ckO ds (a:Nat) 3 (cur).length)::[(5,rfO x),(4,dcO ⟨dk,dn,dnm,dpl,drs,dcs⟩)]⟩,rfl,rfl,?_⟩
  refine And.intro (fun z=>?_) (fun z=>?_)
  ·have z:qF9 (ds.take a) ⟨dk,dn,dnm,dpl,drs,dcs⟩ x=0:=z
   rw [z] at hstep
   refine⟨((k+1:Nat):Int),by rw [Int.natCast_add];exact w6z,?_⟩
   exact⟨(k+1,cur),⟨by show k+1<=drs.length;omega,by show(cur).length<=l.length+2 * (k+1);(first | omega | (simp only [List.length_append,List.length_cons,List.length_nil];omega)),by rw [k3];rw [hstep];rfl⟩,qAA [] [(3,3),(4,4)] [] rfl (sk) (sk) rfl,by show drs.length - (k+1)<drs.length - k;omega⟩
  ·have z:¬ qF9 (ds.take a) ⟨dk,dn,dnm,dpl,drs,dcs⟩ x=0:=z
   rw [qBb,if_neg z] at hstep
   generalize qF9 (ds.take a) ⟨dk,dn,dnm,dpl,drs,dcs⟩ x=kk at hstep
   refine(qCf ds a es (cur) kk x.name (by first | omega | (simp only [List.length_append,List.length_cons,List.length_nil];omega))).holds.useT [6] [(2,3)] rfl (sk) ⟨_,_,rfl,⟨rfl,rfl⟩,_,_,rfl,rfl,_,_,rfl,⟨_,rfl,by show 0+1<=1;decide,rfl⟩,rfl⟩ fun e0 H0 hq=>?_
   obtain⟨rfl,rfl⟩:=hq
   refine⟨rfl,_,⟨8,(7,isO ((cur)++[Iss.mk kk (a:Nat) x.name]))::(1,fmO es)::(0,ckO ds (a:Nat) 7 ((cur)++[Iss.mk kk (a:Nat) x.name]).length)::((6,sfO x.name)::[(5,rfO x),(4,dcO ⟨dk,dn,dnm,dpl,drs,dcs⟩)])⟩,rfl,rfl,?_⟩
   refine⟨((k+1:Nat):Int),by rw [Int.natCast_add];exact w6z,?_⟩
   exact⟨(k+1,(cur)++[Iss.mk kk (a:Nat) x.name]),⟨by show k+1<=drs.length;omega,by show((cur)++[Iss.mk kk (a:Nat) x.name]).length<=l.length+2 * (k+1);(first | omega | (simp only [List.length_append,List.length_cons,List.length_nil];omega)),by rw [k3];rw [hstep];simp [List.append_assoc]⟩,qAA [] [(3,7),(4,4)] [] rfl (sk) (sk) rfl,by show drs.length - (k+1)<drs.length - k;omega⟩
theorem qMZ (l:List Int) (k:Nat) (h:k<l.length):(l.take (k+1)).sum=(l.take k).sum+l.getD k 0:=by
 rw [qAE 0 h,List.sum_append];simp
theorem qV3 (nums:List Int) (n g:Int) (hw:∀ x∈nums,-9999<=x/\x<=9999) (hl:nums.length<=100):Pure cx 86 [ints nums,i64 n,i64 g] (·=.ret [.bool (nums.all (fun w=>decide (0<=w)) && (decide ((nums.length:Int)=n) && decide (nums.sum=g)))]):=by
 obtain⟨R,hR⟩:∃ R,R=(nums.all (fun w=>decide (0<=w)) && (decide ((nums.length:Int)=n) && decide (nums.sum=g))):=⟨_,rfl⟩
 rw [<- hR]
 have hm:(nums.map i64).length=nums.length:=List.length_map ..
 refine qAB Tryz.func86 rfl rfl rfl ?_
 refine⟨Nat,fun k=>[(0, .p (ints nums)),(1, .p (i64 n)),(2, .p (i64 g)),(7, .p (i64 (nums.take k).sum)),(10, .p (ints nums)),(11, .p (i64 nums.length)),(12, .p (i64 k))],fun _=>⟨0,[]⟩,fun k=>k<=nums.length/\(∀ x∈nums.take k,0<=x)/\(nums.take k).sum<=9999 * k/\0<=(nums.take k).sum,fun k=>nums.length - k,?_,?_⟩
 ·exact⟨0,⟨Nat.zero_le _,by simp,by simp,by simp⟩,qAA [] [] [] rfl ⟨rfl,rfl,rfl,rfl,rfl,congrArg (fun n:Nat=>i64 n) hm.symm,rfl,trivial⟩ trivial rfl⟩
 rintro k ⟨k1,k2,k3,k4⟩
 refine QAD (fun m1=>?_) (fun m1=>?_)
 ·have m1:(k:Int)<(nums.length:Nat):=m1
  have hk:k<nums.length:=by omega
  have hc:=qCQ hk
  have hx:=hw _ (qAI 0 hk)
  have hs:=qMZ nums k hk
  have hmem:=qAI 0 hk
  have hnx:∀ y∈nums.take (k+1),y=nums.getD k 0∨y∈nums.take k:=fun y hy=>by
   rw [qAE 0 hk] at hy
   rcases List.mem_append.1 hy with hy | hy
   ·exact .inr hy
   ·exact .inl (List.mem_singleton.1 hy)
  generalize nums.getD k 0=x at hc hx hs hmem hnx
  refine⟨_,⟨by omega,i64 x,hc,rfl⟩,?_⟩
  refine QAD (fun w1=>?_) (fun w1=>?_)
  ·have w1:x<0:=w1
   exact qAF _ rfl rfl (qAO (by rw [hR,List.all_eq_false.2 ⟨x,hmem,by simp;omega⟩];rfl))
  have w1:¬ x<0:=w1
  refine⟨(nums.take (k+1)).sum,by rw [hs];exact w6z,?_⟩
  refine⟨_,w6z,?_⟩
  refine⟨k+1,⟨by omega,fun y hy=>?_,by rw [hs];omega,by rw [hs];omega⟩,qAA [] [] [] rfl (sk) trivial rfl,by show nums.length - (k+1)<nums.length - k;omega⟩
  rcases hnx y hy with rfl | hy
  ·omega
  ·exact k2 y hy
 have m1:¬ (k:Int)<(nums.length:Nat):=m1
 rw [qAc (by omega)] at k2
 have ha:nums.all (fun w=>decide (0<=w))=true:=List.all_eq_true.2 fun x hx=>decide_eq_true (k2 x hx)
 rw [ha] at hR
 refine QAD (fun e1=>?_) (fun e1=>?_)
 rotate_left
 ·have e1:¬ ((nums.map i64).length:Int)=n:=e1
  rw [hm] at e1
  exact qAF _ rfl rfl (qAO (by rw [hR,decide_eq_false e1];rfl))
 have e1:((nums.map i64).length:Int)=n:=e1
 rw [hm] at e1
 rw [decide_eq_true e1] at hR
 refine QAD (fun e2=>?_) (fun e2=>?_)
 ·have e2:(nums.take k).sum=g:=e2
  rw [qAc (by omega)] at e2
  exact qAF _ rfl rfl (qAO (by rw [hR,decide_eq_true e2];rfl))
 ·have e2:¬ (nums.take k).sum=g:=e2
  rw [qAc (by omega)] at e2
  exact qAF _ rfl rfl (qAO (by rw [hR,decide_eq_false e2];rfl))
def fnW:AV:=.fn (.func 111) [] [.ptr 5 0 0, .ptr 3 0 0, .ptr 4 0 0]
def cbO:AObj:=⟨84,false, .bx [.ptr 0 0 0]⟩
def fwO:AObj:=⟨194,false, .bx [fnW]⟩
abbrev wkS (ds:List De) (a:Nat) (es:List (List UInt8 × PV)) (d:De) (l:List Iss):Hp:=⟨6,[(5,fwO),(4,dcO d),(3,cbO),(2,isO l),(1,fmO es),(0,ckO ds (a:Nat) 2 l.length)]⟩
abbrev wkT (ds:List De) (a:Nat) (es:List (List UInt8 × PV)) (d:De) (l:List Iss):Hp:=⟨7,[(6,isO l),(5,fwO),(4,dcO d),(3,cbO),(1,fmO es),(0,ckO ds (a:Nat) 6 l.length)]⟩
def wQ (ds:List De) (a:Nat) (es:List (List UInt8 × PV)) (d:De) (l:List Iss) (e:AE) (H':Hp):Prop:=e=.returned und/\H'=wkT ds a es d l
mutual
def qNZ:Cd->Prop
 | .mk op _ _ _ r st ar=>((ar=[]->op=0∨(r.name ≠ []/\(op=5->1<=st.length)/\st.length<=100))/\(op=0->ar=[]))/\ar.length<=100/\qFQ ar
def qFQ:List Cd->Prop
 | []=>True
 | c::r=>qNZ c/\qFQ r
end
theorem qGg:∀ {l:List Cd} {c:Cd},qFQ l->c∈l->qNZ c
 | [],_,_,h=>by cases h
 | x::l,c,hl,h=>by
  rw [qFQ] at hl
  rcases List.mem_cons.1 h with rfl | h
  ·exact hl.1
  ·exact qGg hl.2 h
theorem qOh {ds:List De} {a:Nat} {es:List (List UInt8 × PV)} (h:CkS ds a es) (d:De) (hdr:d.refs.length<=100):∀ (m:Nat) (c:Cd) (l:List Iss),csz c<=m->qNZ c->(l++qBC (ds.take a) d c).length<=100000 ->
  HoldsG cx 111 [.p c.pv, .ptr 5 0 0, .ptr 3 0 0, .ptr 4 0 0] (wkS ds a es d l) (wQ ds a es d (l++qBC (ds.take a) d c))
 | 0,c,_,hz,_,_=>by cases c;rw [csz] at hz;omega
 | m+1, .mk op n rel val r st ar,l,hz,hw,hl=>by
  have IH:=qOh h d hdr m
  obtain⟨dk,dn,dnm,dpl,drs,dcs⟩:=d
  have hdr:drs.length<=100:=hdr
  rw [csz] at hz
  rw [qNZ] at hw
  obtain⟨⟨w1,_⟩,w2,w3⟩:=hw
  have hC1:ar ≠ []->qBC (ds.take a) ⟨dk,dn,dnm,dpl,drs,dcs⟩ (.mk op n rel val r st ar)=qBM (ds.take a) ⟨dk,dn,dnm,dpl,drs,dcs⟩ ar:=fun hn=>by
   cases ar with
   | nil=>exact absurd rfl hn
   | cons x ar=>rw [qBC,qBM]
  have hC0:ar=[]->qBC (ds.take a) ⟨dk,dn,dnm,dpl,drs,dcs⟩ (.mk op n rel val r st ar)=if op=0 then [] else qBb (qDQ (ds.take a) ⟨dk,dn,dnm,dpl,drs,dcs⟩ op n val r st) a r.name:=fun hn=>by
   subst hn
   rw [qBC,h.tk]
  obtain⟨R,hR⟩:∃ R,R=l++qBC (ds.take a) ⟨dk,dn,dnm,dpl,drs,dcs⟩ (.mk op n rel val r st ar):=⟨_,rfl⟩
  rw [<- hR] at hl ⊢
  have hcl:(qBG ar).length=ar.length:=by rw [qBN,List.length_map]
  refine qAC Tryz.func111 rfl rfl rfl ?_
  refine⟨Nat × List Iss,fun x=>[(1, .ptr 5 0 0),(2, .ptr 3 0 0),(3, .ptr 4 0 0),(4, .ptr 7 0 0),(9, .p (.lsts 10 (qBG ar))),(10, .p (i64 ar.length)),(11, .p (i64 x.1))],fun x=>⟨8,[(7,cnO (.mk op n rel val r st ar)),(6,isO x.2),(5,fwO),(4,dcO ⟨dk,dn,dnm,dpl,drs,dcs⟩),(3,cbO),(1,fmO es),(0,ckO ds (a:Nat) 6 x.2.length)]⟩,fun x=>x.1<=ar.length/\x.2++qBM (ds.take a) ⟨dk,dn,dnm,dpl,drs,dcs⟩ (ar.drop x.1)=l++qBM (ds.take a) ⟨dk,dn,dnm,dpl,drs,dcs⟩ ar,fun x=>ar.length - x.1,?_,?_⟩
  ·exact⟨(0,l),⟨Nat.zero_le _,rfl⟩,qAA [] [(6,2),(7,6)] [] rfl ⟨⟨rfl,rfl⟩,⟨rfl,rfl⟩,⟨rfl,rfl⟩,⟨rfl,rfl⟩,rfl,congrArg (fun n:Nat=>i64 n) hcl.symm,rfl,trivial⟩ (sk) rfl⟩
  rintro⟨k,cur⟩ ⟨k1,k2⟩
  simp only [] at k1 k2
  refine QAD (fun m1=>?_) (fun m1=>?_)
  ·have m1:(k:Int)<(ar.length:Nat):=m1
   have hk:k<ar.length:=by omega
   have hne:ar ≠ []:=fun e=>by rw [e] at hk;cases hk
   have hcell:(qBG ar)[k]?=some (ar.getD k cd0).cells:=by rw [qBN];exact qCq hk
   have hmem:=qAI cd0 hk
   have hsz:=qL6 hmem
   have hxw:=qGg w3 hmem
   rw [qBt cd0 hk,qBM,<- List.append_assoc] at k2
   have hlen:((cur++qBC (ds.take a) ⟨dk,dn,dnm,dpl,drs,dcs⟩ (ar.getD k cd0))++qBM (ds.take a) ⟨dk,dn,dnm,dpl,drs,dcs⟩ (ar.drop (k+1))).length<=100000:=by rw [k2,<- hC1 hne,<- hR];exact hl
   rw [List.length_append] at hlen
   generalize ar.getD k cd0=x at hcell hsz hxw k2 hlen
   obtain⟨xo,xn,xr,xv,xf,xs,xa⟩:=x
   refine⟨_,⟨by omega,(Cd.mk xo xn xr xv xf xs xa).cells,hcell,rfl⟩,?_⟩
   refine(IH (.mk xo xn xr xv xf xs xa) cur (by omega) hxw (by omega)).holds.useT [] [(2,6)] rfl (sk) (sk) fun e0 H0 hq=>?_
   obtain⟨rfl,rfl⟩:=hq
   generalize cur++qBC (ds.take a) ⟨dk,dn,dnm,dpl,drs,dcs⟩ (.mk xo xn xr xv xf xs xa)=nxt at k2 hlen ⊢
   refine⟨rfl,_,⟨10,(9,isO nxt)::(5,fwO)::(4,dcO ⟨dk,dn,dnm,dpl,drs,dcs⟩)::(3,cbO)::(1,fmO es)::(0,ckO ds (a:Nat) 9 nxt.length)::[(8,cnO (.mk xo xn xr xv xf xs xa)),(7,cnO (.mk op n rel val r st ar))]⟩,rfl,rfl,?_⟩
   refine⟨((k+1:Nat):Int),by rw [Int.natCast_add];exact w6z,?_⟩
   exact⟨(k+1,nxt),⟨by show k+1<=ar.length;omega,k2⟩,qAA [] [(6,9),(7,7)] [] rfl (sk) (sk) rfl,by show ar.length - (k+1)<ar.length - k;omega⟩
  have m1:¬ (k:Int)<(ar.length:Nat):=m1
  rw [List.drop_eq_nil_of_le (by omega),qBM,List.append_nil] at k2
  refine QAD (fun o0=>?_) (fun o0=>?_)
  ·have o0:op=0:=o0
   have hRc:R=cur:=by
    by_cases hn:ar=[]
    ·rw [hR,hC0 hn,if_pos o0,k2,hn,qBM]
    ·rw [hR,hC1 hn,k2]
   exact⟨[],[(6,6)],[], .returned und,wkT ds a es ⟨dk,dn,dnm,dpl,drs,dcs⟩ (cur),rfl,sk,sk,rfl,by rw [hRc]⟩
  have o0:¬ op=0:=o0
  refine QAD (fun g1=>?_) (fun g1=>?_)
  ·have g1:(0:Int)<((qBG ar).length:Nat):=g1
   rw [hcl] at g1
   have hRc:R=cur:=by rw [hR,hC1 (fun e=>by rw [e] at g1;exact absurd g1 (by decide)),k2]
   exact⟨[],[(6,6)],[], .returned und,wkT ds a es ⟨dk,dn,dnm,dpl,drs,dcs⟩ (cur),rfl,sk,sk,rfl,by rw [hRc]⟩
  have g1:¬ (0:Int)<((qBG ar).length:Nat):=g1
  rw [hcl] at g1
  have hn:ar=[]:=List.eq_nil_of_length_eq_zero (by omega)
  have hw:=(w1 hn).resolve_left o0
  rw [hn,qBM,List.append_nil] at k2
  rw [hC0 hn,if_neg o0,<- k2] at hR
  have hcl2:cur.length<=100000:=by rw [hR,List.length_append] at hl;omega
  refine(qR1 (op:=op) (n:=n) (rel:=rel) (val:=val) (r:=r) (st:=st) (ar:=ar) cur h ⟨dk,dn,dnm,dpl,drs,dcs⟩ hw.1 hw.2.1 hw.2.2 hdr).holds.useT [] [(2,6)] rfl (sk) (sk) fun e0 H0 hq=>?_
  obtain⟨rfl,rfl⟩:=hq
  generalize qDQ (ds.take a) ⟨dk,dn,dnm,dpl,drs,dcs⟩ op n val r st=kk at hR
  refine⟨rfl,_,⟨8,(6,isO cur)::(1,fmO es)::(0,ckO ds (a:Nat) 6 cur.length)::[(7,cnO (.mk op n rel val r st ar)),(5,fwO),(4,dcO ⟨dk,dn,dnm,dpl,drs,dcs⟩),(3,cbO)]⟩,rfl,rfl,?_⟩
  refine And.intro (fun z=>?_) (fun z=>?_)
  ·have z:kk=0:=z
   rw [qBb,if_pos z,List.append_nil] at hR
   exact⟨[],[(6,6)],[], .returned und,wkT ds a es ⟨dk,dn,dnm,dpl,drs,dcs⟩ (cur),rfl,sk,sk,rfl,by rw [hR]⟩
  ·have z:¬ kk=0:=z
   rw [qBb,if_neg z] at hR
   refine(qCf ds a es (cur) kk r.name (by first | omega | (simp only [List.length_append,List.length_cons,List.length_nil];omega))).holds.useT [8] [(2,6)] rfl (sk) ⟨_,_,rfl,⟨rfl,rfl⟩,_,_,rfl,rfl,_,_,rfl,⟨_,rfl,by show 0+1<=1;decide,rfl⟩,rfl⟩ fun e0 H0 hq=>?_
   obtain⟨rfl,rfl⟩:=hq
   refine⟨rfl,_,⟨10,(9,isO ((cur)++[Iss.mk kk (a:Nat) r.name]))::(1,fmO es)::(0,ckO ds (a:Nat) 9 ((cur)++[Iss.mk kk (a:Nat) r.name]).length)::[(8,sfO r.name),(7,cnO (.mk op n rel val r st ar)),(5,fwO),(4,dcO ⟨dk,dn,dnm,dpl,drs,dcs⟩),(3,cbO)]⟩,rfl,rfl,?_⟩
   exact⟨[],[(6,9)],[], .returned und,wkT ds a es ⟨dk,dn,dnm,dpl,drs,dcs⟩ (cur++[Iss.mk kk (a:Nat) r.name]),rfl,sk,sk,rfl,by rw [hR]⟩
def smO (g:Int):AObj:=⟨qSl,false, .bx [.p (i64 g)]⟩
def kcO (c:Cs):AObj:=⟨qHe,false, .bx (c.cells.map .p)⟩
theorem qJ4 {d:De} {nums:List Int} {g:Int} (h:¬ d.kind=5):qI2 d nums g=(nums.all (fun w=>decide (0<=w)) && (decide ((nums.length:Int)=d.n) && decide (nums.sum=g))):=by rw [qI2,if_neg h]
theorem qJ5 {d:De} {nums:List Int} {g:Int} (h:d.kind=5):qI2 d nums g=(decide (nums.length=1) && (decide (-100<=nums.getD 0 0) && decide (nums.getD 0 0<=100))):=by rw [qI2,if_pos h]
structure CaOK (c:Cs):Prop where
 cond:qNZ c.cond
 nums:∀ x∈c.nums,-9999<=x/\x<=9999
 len:c.nums.length<=100
def rwQ (d:De) (g:Int) (b:Bool) (e:AE) (H':Hp):Prop:=e=.returned (.p (.bool b))/\H'=⟨2,[(1,smO g),(0,dcO d)]⟩
theorem qTK (d:De) (g:Int) (nums:List Int) (hw:∀ x∈nums,-9999<=x/\x<=9999) (hl:nums.length<=100) (hk:¬ d.kind=5):HoldsG cx 85 [.p (ints nums), .ptr 0 0 0, .ptr 1 0 0] ⟨2,[(1,smO g),(0,dcO d)]⟩ (rwQ d g (qI2 d nums g)):=by
 have hr:=qV3 nums d.n g hw hl
 rw [<- qJ4 hk] at hr
 obtain⟨dk,dn,dnm,dpl,drs,dcs⟩:=d
 generalize qI2 ⟨dk,dn,dnm,dpl,drs,dcs⟩ nums g=b at hr
 refine qAC Tryz.func85 rfl rfl rfl ?_
 refine hr.eq rfl ?_
 exact⟨[],[],[], .returned (.p (.bool b)),⟨2,[(1,smO g),(0,dcO ⟨dk,dn,dnm,dpl,drs,dcs⟩)]⟩,rfl,sk,sk,rfl,rfl⟩
theorem qTa (d:De) (g:Int) (nums:List Int) (hk:d.kind=5):Pure cx 87 [ints nums] (·=.ret [.bool (qI2 d nums g)]):=by
 obtain⟨R,hR⟩:∃ R,R=qI2 d nums g:=⟨_,rfl⟩
 rw [<- hR]
 rw [qJ5 hk] at hR
 have hm:(nums.map i64).length=nums.length:=List.length_map ..
 refine qAB Tryz.func87 rfl rfl rfl ?_
 refine QAD (fun h1=>?_) (fun h1=>?_)
 rotate_left
 ·have h1:¬ ((nums.map i64).length:Int)=1:=h1
  rw [hm] at h1
  exact qAF _ rfl rfl (qAO (by rw [hR,decide_eq_false (show ¬ nums.length=1 by omega)];rfl))
 have h1:((nums.map i64).length:Int)=1:=h1
 rw [hm] at h1
 rw [decide_eq_true (show nums.length=1 by omega)] at hR
 have hc:=qCQ (l:=nums) (k:=0) (by omega)
 generalize nums.getD 0 0=x at hc hR
 refine⟨_,⟨by decide,i64 x,hc,rfl⟩,?_⟩
 refine QAD (fun h2=>?_) (fun h2=>?_)
 rotate_left
 ·have h2:¬ -100<=x:=h2
  exact qAF _ rfl rfl (qAO (by rw [hR,decide_eq_false h2];rfl))
 have h2:-100<=x:=h2
 refine⟨_,⟨by decide,i64 x,hc,rfl⟩,?_⟩
 refine QAD (fun h3=>?_) (fun h3=>?_)
 ·have h3:x<=100:=h3
  exact qAF _ rfl rfl (qAO (by rw [hR,decide_eq_true h2,decide_eq_true h3];rfl))
 ·have h3:¬ x<=100:=h3
  exact qAF _ rfl rfl (qAO (by rw [hR,decide_eq_true h2,decide_eq_false h3];rfl))
theorem qBp (L:List De) (d:De) (g:Int) (c:Cs) (cs:List Cs):qAo L d g (c::cs)=(qBC L d c.cond++(if qI2 d c.nums g then [] else [⟨9,L.length,[]⟩]))++qAo L d g cs:=by rw [qAo,List.flatMap_cons];rfl
abbrev cgS (ds:List De) (a:Nat) (es:List (List UInt8 × PV)) (d:De) (g:Int) (l:List Iss):Hp:=⟨5,[(4,smO g),(3,dcO d),(2,isO l),(1,fmO es),(0,ckO ds (a:Nat) 2 l.length)]⟩
abbrev cgT (ds:List De) (a:Nat) (es:List (List UInt8 × PV)) (d:De) (g:Int) (l:List Iss):Hp:=⟨6,[(5,isO l),(4,smO g),(3,dcO d),(1,fmO es),(0,ckO ds (a:Nat) 5 l.length)]⟩
def cgQ (ds:List De) (a:Nat) (es:List (List UInt8 × PV)) (d:De) (g:Int) (l:List Iss) (e:AE) (H':Hp):Prop:=e=.returned und/\H'=cgT ds a es d g l
theorem qR4 {ds:List De} {a:Nat} {es:List (List UInt8 × PV)} (l:List Iss) (h:CkS ds a es) (d:De) (g:Int) (hk:¬ d.kind=5) (hdr:d.refs.length<=100) (hcl:d.cases.length<=100) (hc:∀ c∈d.cases,CaOK c) (hl:(l++qAo (ds.take a) d g d.cases).length<=100000) :
  HoldsG cx 84 [.ptr 0 0 0, .p d.pv, .fn (.func 85) [] [.ptr 3 0 0, .ptr 4 0 0]] (cgS ds a es d g l) (cgQ ds a es d g (l++qAo (ds.take a) d g d.cases)):=by
 obtain⟨dk,dn,dnm,dpl,drs,dcs⟩:=d
 have hdr:drs.length<=100:=hdr
 have hcl:dcs.length<=100:=hcl
 have hc:∀ c∈dcs,CaOK c:=hc
 have hl:(l++qAo (ds.take a) ⟨dk,dn,dnm,dpl,drs,dcs⟩ g dcs).length<=100000:=hl
 obtain⟨R,hR⟩:∃ R,R=l++qAo (ds.take a) ⟨dk,dn,dnm,dpl,drs,dcs⟩ g dcs:=⟨_,rfl⟩
 show HoldsG cx _ _ _ (cgQ ds a es ⟨dk,dn,dnm,dpl,drs,dcs⟩ g (l++qAo (ds.take a) ⟨dk,dn,dnm,dpl,drs,dcs⟩ g dcs))
 rw [<- hR] at hl ⊢
 have hm:(dcs.map Cs.cells).length=dcs.length:=List.length_map ..
 refine qAC Tryz.func84 rfl rfl rfl ?_
 refine⟨Nat × List Iss,fun x=>[(2, .fn (.func 85) [] [.ptr 3 0 0, .ptr 4 0 0]),(3, .ptr 6 0 0),(4, .ptr 7 0 0),(6, .ptr 8 0 0),(11, .p (css dcs)),(12, .p (i64 dcs.length)),(13, .p (i64 x.1))],fun x=>⟨9,[(8,⟨194,false, .bx [.fn (.func 111) [] [.ptr 8 0 0, .ptr 6 0 0, .ptr 7 0 0]]⟩),(7,dcO ⟨dk,dn,dnm,dpl,drs,dcs⟩),(6,cbO),(5,isO x.2),(4,smO g),(3,dcO ⟨dk,dn,dnm,dpl,drs,dcs⟩),(1,fmO es),(0,ckO ds (a:Nat) 5 x.2.length)]⟩,fun x=>x.1<=dcs.length/\x.2++qAo (ds.take a) ⟨dk,dn,dnm,dpl,drs,dcs⟩ g (dcs.drop x.1)=R,fun x=>dcs.length - x.1,?_,?_⟩
 ·exact⟨(0,l),⟨Nat.zero_le _,hR.symm⟩,qAA [] [(5,2),(6,5),(7,6),(8,7)] [] rfl ⟨sk,⟨rfl,rfl⟩,⟨rfl,rfl⟩,⟨rfl,rfl⟩,rfl,congrArg (fun n:Nat=>i64 n) hm.symm,rfl,trivial⟩ (sk) rfl⟩
 rintro⟨k,cur⟩ ⟨k1,k2⟩
 simp only [] at k1 k2
 refine QAD (fun m1=>?_) (fun m1=>?_)
 rotate_left
 ·have m1:¬ (k:Int)<(dcs.length:Nat):=m1
  rw [List.drop_eq_nil_of_le (by omega),show qAo (ds.take a) ⟨dk,dn,dnm,dpl,drs,dcs⟩ g []=[] from rfl,List.append_nil] at k2
  exact⟨[],[(5,5)],[], .returned und,cgT ds a es ⟨dk,dn,dnm,dpl,drs,dcs⟩ g cur,rfl,sk,sk,rfl,by rw [<- k2]⟩
 have m1:(k:Int)<(dcs.length:Nat):=m1
 have hkk:k<dcs.length:=by omega
 have hcell:=qHm hkk
 have hx:=hc _ (qAI cs0 hkk)
 rw [qBt cs0 hkk,qBp,h.tk] at k2
 generalize dcs.getD k cs0=x at hcell hx k2
 obtain⟨⟨xo,xn,xr,xv,xf,xs,xa⟩,xw⟩:=x
 obtain⟨x1,x2,x3⟩:=hx
 simp only [] at x1 x2 x3 k2
 have hlen:=hl
 rw [<- k2,List.length_append,List.length_append,List.length_append] at hlen
 refine⟨_,⟨by omega,(⟨.mk xo xn xr xv xf xs xa,xw⟩:Cs).cells,hcell,rfl⟩,?_⟩
 refine(qOh h ⟨dk,dn,dnm,dpl,drs,dcs⟩ hdr _ (.mk xo xn xr xv xf xs xa) cur (Nat.le_refl _) x1 (by rw [List.length_append];omega)).holds.useT [] [(2,5),(3,6),(4,7),(5,8)] rfl (sk) (sk) fun e0 H0 hq=>?_
 obtain⟨rfl,rfl⟩:=hq
 rw [<- List.append_assoc,<- List.append_assoc] at k2
 have hnl:(cur++qBC (ds.take a) ⟨dk,dn,dnm,dpl,drs,dcs⟩ (.mk xo xn xr xv xf xs xa)).length<=100000:=by rw [List.length_append];omega
 clear hlen
 generalize cur++qBC (ds.take a) ⟨dk,dn,dnm,dpl,drs,dcs⟩ (.mk xo xn xr xv xf xs xa)=nxt at k2 hnl ⊢
 refine⟨rfl,_,⟨11,(10,isO nxt)::(8,⟨194,false, .bx [.fn (.func 111) [] [.ptr 8 0 0, .ptr 6 0 0, .ptr 7 0 0]]⟩)::(7,dcO ⟨dk,dn,dnm,dpl,drs,dcs⟩)::(6,cbO)::(1,fmO es)::(0,ckO ds (a:Nat) 10 nxt.length)::[(9,kcO ⟨.mk xo xn xr xv xf xs xa,xw⟩),(4,smO g),(3,dcO ⟨dk,dn,dnm,dpl,drs,dcs⟩)]⟩,rfl,rfl,?_⟩
 have hr:=qTK ⟨dk,dn,dnm,dpl,drs,dcs⟩ g xw x2 x3 hk
 by_cases hrow:qI2 ⟨dk,dn,dnm,dpl,drs,dcs⟩ xw g=true
 ·rw [hrow] at hr k2
  rw [if_pos rfl,List.append_nil] at k2
  refine hr.holds.useT [] [(0,3),(1,4)] rfl (sk) (sk) fun e0 H0 hq=>?_
  obtain⟨rfl,rfl⟩:=hq
  refine⟨rfl,_,⟨11,(4,smO g)::(3,dcO ⟨dk,dn,dnm,dpl,drs,dcs⟩)::[(10,isO nxt),(8,⟨194,false, .bx [.fn (.func 111) [] [.ptr 8 0 0, .ptr 6 0 0, .ptr 7 0 0]]⟩),(7,dcO ⟨dk,dn,dnm,dpl,drs,dcs⟩),(6,cbO),(1,fmO es),(0,ckO ds (a:Nat) 10 nxt.length),(9,kcO ⟨.mk xo xn xr xv xf xs xa,xw⟩)]⟩,rfl,rfl,?_⟩
  refine⟨((k+1:Nat):Int),by rw [Int.natCast_add];exact w6z,?_⟩
  exact⟨(k+1,nxt),⟨by show k+1<=dcs.length;omega,k2⟩,qAA [] [(5,10),(6,6),(7,7),(8,8)] [] rfl ⟨sk,⟨rfl,rfl⟩,⟨rfl,rfl⟩,⟨rfl,rfl⟩,rfl,rfl,rfl,trivial⟩ (sk) rfl,by show dcs.length - (k+1)<dcs.length - k;omega⟩
 ·rw [Bool.not_eq_true] at hrow
  rw [hrow] at hr k2
  rw [if_neg (by decide)] at k2
  refine hr.holds.useT [] [(0,3),(1,4)] rfl (sk) (sk) fun e0 H0 hq=>?_
  obtain⟨rfl,rfl⟩:=hq
  refine⟨rfl,_,⟨11,(4,smO g)::(3,dcO ⟨dk,dn,dnm,dpl,drs,dcs⟩)::[(10,isO nxt),(8,⟨194,false, .bx [.fn (.func 111) [] [.ptr 8 0 0, .ptr 6 0 0, .ptr 7 0 0]]⟩),(7,dcO ⟨dk,dn,dnm,dpl,drs,dcs⟩),(6,cbO),(1,fmO es),(0,ckO ds (a:Nat) 10 nxt.length),(9,kcO ⟨.mk xo xn xr xv xf xs xa,xw⟩)]⟩,rfl,rfl,?_⟩
  refine(qFk ds a es (nxt) 9 (by first | omega | (simp only [List.length_append,List.length_cons,List.length_nil];omega))).holds.useT [] [(2,10)] rfl (sk) (sk) fun e0 H0 hq=>?_
  obtain⟨rfl,rfl⟩:=hq
  refine⟨rfl,_,⟨12,(11,isO ((nxt)++[Iss.mk 9 (a:Nat) []]))::(1,fmO es)::(0,ckO ds (a:Nat) 11 ((nxt)++[Iss.mk 9 (a:Nat) []]).length)::[(4,smO g),(3,dcO ⟨dk,dn,dnm,dpl,drs,dcs⟩),(8,⟨194,false, .bx [.fn (.func 111) [] [.ptr 8 0 0, .ptr 6 0 0, .ptr 7 0 0]]⟩),(7,dcO ⟨dk,dn,dnm,dpl,drs,dcs⟩),(6,cbO),(9,kcO ⟨.mk xo xn xr xv xf xs xa,xw⟩)]⟩,rfl,rfl,?_⟩
  refine⟨((k+1:Nat):Int),by rw [Int.natCast_add];exact w6z,?_⟩
  exact⟨(k+1,nxt++[Iss.mk 9 (a:Nat) []]),⟨by show k+1<=dcs.length;omega,k2⟩,qAA [] [(5,11),(6,6),(7,7),(8,8)] [] rfl ⟨sk,⟨rfl,rfl⟩,⟨rfl,rfl⟩,⟨rfl,rfl⟩,rfl,rfl,rfl,trivial⟩ (sk) rfl,by show dcs.length - (k+1)<dcs.length - k;omega⟩
theorem qR5 {ds:List De} {a:Nat} {es:List (List UInt8 × PV)} (l:List Iss) (h:CkS ds a es) (d:De) (g:Int) (hk:d.kind=5) (hdr:d.refs.length<=100) (hcl:d.cases.length<=100) (hc:∀ c∈d.cases,CaOK c) (hl:(l++qAo (ds.take a) d g d.cases).length<=100000) :
  HoldsG cx 84 [.ptr 0 0 0, .p d.pv, .p (.fn (.func 87) [] [])] (ckS ds a es l) (nQ ds a es (l++qAo (ds.take a) d g d.cases)):=by
 obtain⟨dk,dn,dnm,dpl,drs,dcs⟩:=d
 have hdr:drs.length<=100:=hdr
 have hcl:dcs.length<=100:=hcl
 have hc:∀ c∈dcs,CaOK c:=hc
 have hl:(l++qAo (ds.take a) ⟨dk,dn,dnm,dpl,drs,dcs⟩ g dcs).length<=100000:=hl
 obtain⟨R,hR⟩:∃ R,R=l++qAo (ds.take a) ⟨dk,dn,dnm,dpl,drs,dcs⟩ g dcs:=⟨_,rfl⟩
 show HoldsG cx _ _ _ (nQ ds a es (l++qAo (ds.take a) ⟨dk,dn,dnm,dpl,drs,dcs⟩ g dcs))
 rw [<- hR] at hl ⊢
 have hm:(dcs.map Cs.cells).length=dcs.length:=List.length_map ..
 refine qAC Tryz.func84 rfl rfl rfl ?_
 refine⟨Nat × List Iss,fun x=>[(2, .p (.fn (.func 87) [] [])),(3, .ptr 4 0 0),(4, .ptr 5 0 0),(6, .ptr 6 0 0),(11, .p (css dcs)),(12, .p (i64 dcs.length)),(13, .p (i64 x.1))],fun x=>⟨7,[(6,⟨194,false, .bx [.fn (.func 111) [] [.ptr 6 0 0, .ptr 4 0 0, .ptr 5 0 0]]⟩),(5,dcO ⟨dk,dn,dnm,dpl,drs,dcs⟩),(4,cbO),(3,isO x.2),(1,fmO es),(0,ckO ds (a:Nat) 3 x.2.length)]⟩,fun x=>x.1<=dcs.length/\x.2++qAo (ds.take a) ⟨dk,dn,dnm,dpl,drs,dcs⟩ g (dcs.drop x.1)=R,fun x=>dcs.length - x.1,?_,?_⟩
 ·exact⟨(0,l),⟨Nat.zero_le _,hR.symm⟩,qAA [] [(3,2),(4,3),(5,4),(6,5)] [] rfl ⟨rfl,⟨rfl,rfl⟩,⟨rfl,rfl⟩,⟨rfl,rfl⟩,rfl,congrArg (fun n:Nat=>i64 n) hm.symm,rfl,trivial⟩ (sk) rfl⟩
 rintro⟨k,cur⟩ ⟨k1,k2⟩
 simp only [] at k1 k2
 refine QAD (fun m1=>?_) (fun m1=>?_)
 rotate_left
 ·have m1:¬ (k:Int)<(dcs.length:Nat):=m1
  rw [List.drop_eq_nil_of_le (by omega),show qAo (ds.take a) ⟨dk,dn,dnm,dpl,drs,dcs⟩ g []=[] from rfl,List.append_nil] at k2
  exact⟨[],[(3,3)],[], .returned und,ckT ds a es cur,rfl,sk,sk,rfl,by rw [<- k2]⟩
 have m1:(k:Int)<(dcs.length:Nat):=m1
 have hkk:k<dcs.length:=by omega
 have hcell:=qHm hkk
 have hx:=hc _ (qAI cs0 hkk)
 rw [qBt cs0 hkk,qBp,h.tk] at k2
 generalize dcs.getD k cs0=x at hcell hx k2
 obtain⟨⟨xo,xn,xr,xv,xf,xs,xa⟩,xw⟩:=x
 obtain⟨x1,x2,x3⟩:=hx
 simp only [] at x1 x2 x3 k2
 have hlen:=hl
 rw [<- k2,List.length_append,List.length_append,List.length_append] at hlen
 refine⟨_,⟨by omega,(⟨.mk xo xn xr xv xf xs xa,xw⟩:Cs).cells,hcell,rfl⟩,?_⟩
 refine(qOh h ⟨dk,dn,dnm,dpl,drs,dcs⟩ hdr _ (.mk xo xn xr xv xf xs xa) cur (Nat.le_refl _) x1 (by rw [List.length_append];omega)).holds.useT [] [(2,3),(3,4),(4,5),(5,6)] rfl (sk) (sk) fun e0 H0 hq=>?_
 obtain⟨rfl,rfl⟩:=hq
 rw [<- List.append_assoc,<- List.append_assoc] at k2
 have hnl:(cur++qBC (ds.take a) ⟨dk,dn,dnm,dpl,drs,dcs⟩ (.mk xo xn xr xv xf xs xa)).length<=100000:=by rw [List.length_append];omega
 clear hlen
 generalize cur++qBC (ds.take a) ⟨dk,dn,dnm,dpl,drs,dcs⟩ (.mk xo xn xr xv xf xs xa)=nxt at k2 hnl ⊢
 refine⟨rfl,_,⟨9,(8,isO nxt)::(6,⟨194,false, .bx [.fn (.func 111) [] [.ptr 6 0 0, .ptr 4 0 0, .ptr 5 0 0]]⟩)::(5,dcO ⟨dk,dn,dnm,dpl,drs,dcs⟩)::(4,cbO)::(1,fmO es)::(0,ckO ds (a:Nat) 8 nxt.length)::[(7,kcO ⟨.mk xo xn xr xv xf xs xa,xw⟩)]⟩,rfl,rfl,?_⟩
 have hr:=qTa ⟨dk,dn,dnm,dpl,drs,dcs⟩ g xw hk
 by_cases hrow:qI2 ⟨dk,dn,dnm,dpl,drs,dcs⟩ xw g=true
 ·rw [hrow] at hr k2
  rw [if_pos rfl,List.append_nil] at k2
  refine hr.eq rfl ?_
  refine⟨((k+1:Nat):Int),by rw [Int.natCast_add];exact w6z,?_⟩
  exact⟨(k+1,nxt),⟨by show k+1<=dcs.length;omega,k2⟩,qAA [] [(3,8),(4,4),(5,5),(6,6)] [] rfl ⟨rfl,⟨rfl,rfl⟩,⟨rfl,rfl⟩,⟨rfl,rfl⟩,rfl,rfl,rfl,trivial⟩ (sk) rfl,by show dcs.length - (k+1)<dcs.length - k;omega⟩
 ·rw [Bool.not_eq_true] at hrow
  rw [hrow] at hr k2
  rw [if_neg (by decide)] at k2
  refine hr.eq rfl ?_
  refine(qFk ds a es (nxt) 9 (by first | omega | (simp only [List.length_append,List.length_cons,List.length_nil];omega))).holds.useT [] [(2,8)] rfl (sk) (sk) fun e0 H0 hq=>?_
  obtain⟨rfl,rfl⟩:=hq
  refine⟨rfl,_,⟨10,(9,isO ((nxt)++[Iss.mk 9 (a:Nat) []]))::(1,fmO es)::(0,ckO ds (a:Nat) 9 ((nxt)++[Iss.mk 9 (a:Nat) []]).length)::[(6,⟨194,false, .bx [.fn (.func 111) [] [.ptr 6 0 0, .ptr 4 0 0, .ptr 5 0 0]]⟩),(5,dcO ⟨dk,dn,dnm,dpl,drs,dcs⟩),(4,cbO),(7,kcO ⟨.mk xo xn xr xv xf xs xa,xw⟩)]⟩,rfl,rfl,?_⟩
  refine⟨((k+1:Nat):Int),by rw [Int.natCast_add];exact w6z,?_⟩
  exact⟨(k+1,nxt++[Iss.mk 9 (a:Nat) []]),⟨by show k+1<=dcs.length;omega,k2⟩,qAA [] [(3,9),(4,4),(5,5),(6,6)] [] rfl ⟨rfl,⟨rfl,rfl⟩,⟨rfl,rfl⟩,⟨rfl,rfl⟩,rfl,rfl,rfl,trivial⟩ (sk) rfl,by show dcs.length - (k+1)<dcs.length - k;omega⟩
set_option maxHeartbeats 4000000
theorem qKl (g:Int) (b:List De):∀ (a l:List De),qBm g l (a++b)=qBm g l a++qBm g (l++a) b
 | [],l=>by rw [List.append_nil];rfl
 | d::a,l=>by
  have e:l++[d]++a=l++d::a:=by rw [List.append_assoc];rfl
  rw [List.cons_append,qBm,qBm,qKl g b a (l++[d]),e,List.append_assoc]
def DK (a:Nat) (X:List Iss):Prop:=∀ i∈X,i.decl=(a:Nat)/\i.kind ≠ 10
theorem DK.nil {a:Nat}:DK a []:=fun i h=>by cases h
theorem DK.app {a:Nat} {X Z:List Iss} (h:DK a X) (k:DK a Z):DK a (X++Z):=fun i hi=>by
 rcases List.mem_append.1 hi with hi | hi
 ·exact h i hi
 ·exact k i hi
theorem DK.one {a:Nat} {k:Int} {nm:List UInt8} (h:k ≠ 10):DK a [⟨k,(a:Nat),nm⟩]:=fun i hi=>by
 rw [List.mem_singleton.1 hi];exact⟨rfl,h⟩
theorem DK.note {a:Nat} {k:Int} {nm:List UInt8} (h:k ≠ 10):DK a (qBb k (a:Nat) nm):=by
 unfold qBb
 split
 ·exact DK.nil
 ·exact DK.one h
theorem qRA (l:List De) (d:De) (op n val:Int) (r:Rf) (st:List Int):qDQ l d op n val r st ≠ 10:=by
 unfold qDQ
 split
 ·decide
 ·split
  ·decide
  ·split
   ·split <;> decide
   ·decide
mutual
theorem qNR (l:List De) (d:De):∀ c:Cd,DK l.length (qBC l d c)
 | .mk op n _ val r st []=>by
  rw [qBC]
  split
  ·exact DK.nil
  ·exact DK.note (qRA l d op n val r st)
 | .mk op n _ val r st (a::az)=>by
  rw [qBC]
  exact(qNR l d a).app (qKo l d az)
theorem qKo (l:List De) (d:De):∀ c:List Cd,DK l.length (qBM l d c)
 | []=>by rw [qBM];exact DK.nil
 | a::az=>by
  rw [qBM]
  exact(qNR l d a).app (qKo l d az)
end
structure OkD (d:De):Prop where
 kind:d.kind=1∨d.kind=2∨d.kind=3∨d.kind=4∨d.kind=5
 bare:d.kind=1∨d.kind=5->d.name=[]
 name:d.kind=2∨d.kind=3∨d.kind=4->d.name ≠ []
 plate:¬ d.kind=3->d.plate=[]
 refs:∀ r∈d.refs,r.name ≠ []
theorem qHK (nm:List UInt8):∀ l:List De,qCR l nm=l.find? fun d=>decide (d.name=nm)
 | []=>rfl
 | d::r=>by
  rw [List.find?_cons,<- qHK nm r,qCR,qBz]
  by_cases h:d.name=nm
  ·rw [if_pos h,decide_eq_true h];rfl
  ·rw [if_neg h,decide_eq_false h]
   show((qBz r nm).map (·+1)).map _=qCR r nm
   rw [qCR]
   cases qBz r nm <;> rfl
theorem qIa (l:List De) (nm:List UInt8):(qBz l nm).isSome=(qCR l nm).isSome:=by
 rw [qCR];cases qBz l nm <;> rfl
theorem qMw {k a:Int} {nm:List UInt8}:qBb k a nm=[] ↔ k=0:=by
 unfold qBb
 split
 ·rename_i h;exact⟨fun _=>h,fun _=>rfl⟩
 ·rename_i h;exact⟨fun e=>(by cases e),fun e=>absurd e h⟩
structure Apart (d x:De):Prop where
 plate:x.plate ≠ []->d.name ≠ x.plate
 refs:∀ r∈x.refs,d.name ≠ r.name
mutual
theorem qKp {l m:List De} {x:De} (h:∀ op n val r st,qDQ l x op n val r st=qDQ m x op n val r st):∀ c:Cd,qBC l x c=[]->qBC m x c=[]
 | .mk op n _ val r st [],hc=>by
  rw [qBC] at hc ⊢
  split
  ·rfl
  ·rename_i h0
   rw [if_neg h0,qMw,h] at hc
   exact qMw.2 hc
 | .mk op n _ val r st (a::az),hc=>by
  rw [qBC] at hc ⊢
  obtain⟨h1,h2⟩:=List.append_eq_nil_iff.1 hc
  rw [qKp h a h1,qIh h az h2];rfl
theorem qIh {l m:List De} {x:De} (h:∀ op n val r st,qDQ l x op n val r st=qDQ m x op n val r st):∀ c:List Cd,qBM l x c=[]->qBM m x c=[]
 | [],_=>by rw [qBM]
 | a::az,hc=>by
  rw [qBM] at hc ⊢
  obtain⟨h1,h2⟩:=List.append_eq_nil_iff.1 hc
  rw [qKp h a h1,qIh h az h2];rfl
end
theorem qCS {g:Int}:∀ (r l:List De),qBm g l r=[]->∀ k,k<r.length->qCW (l++r.take k) (r.getD k de0) g=[]
 | [],_,_,k,hk=>by cases hk
 | x::r,l,h,k,hk=>by
  rw [qBm] at h
  obtain⟨h1,h2⟩:=List.append_eq_nil_iff.1 h
  cases k with
  | zero=>rw [List.take_zero,List.append_nil];exact h1
  | succ k=>
   have:=qCS r (l++[x]) h2 k (by simpa using hk)
   rw [List.append_assoc] at this
   exact this
theorem qFl:∀ (a l b:List De),qAP l (a++b)=qAP l a+qAP (l++a) b/\qAZ l (a++b)=qAZ l a * qAZ (l++a) b
 | [],l,b=>by rw [List.append_nil];exact⟨(Nat.zero_add _).symm,(Nat.one_mul _).symm⟩
 | d::a,l,b=>by
  have ih:=qFl a (l++[d]) b
  have e:l++[d]++a=l++d::a:=by rw [List.append_assoc];rfl
  rw [e] at ih
  rw [List.cons_append,qAP,qAP,qAZ,qAZ,ih.1,ih.2,Nat.add_assoc,Nat.mul_assoc]
  exact⟨rfl,rfl⟩
theorem qQc {l:List De} {d:De} (h:qAd l d=[]):2<=d.n/\d.n<=4:=by
 unfold qAd at h
 split at h
 ·cases h
 ·rename_i hn;omega
theorem qG6 {l:List De} {d:De} {g:Int} (h:qCW l d g=[]) (hk:d.kind=3∨d.kind=4):2<=d.n/\d.n<=4:=by
 unfold qCW at h
 rcases hk with hk | hk
 ·rw [if_neg (by omega),if_neg (by omega),if_pos hk] at h
  exact qQc (List.append_eq_nil_iff.1 (List.append_eq_nil_iff.1 (List.append_eq_nil_iff.1 h).2).2).1
 ·rw [if_neg (by omega),if_neg (by omega),if_neg (by omega),if_pos hk] at h
  exact qQc (List.append_eq_nil_iff.1 (List.append_eq_nil_iff.1 h).2).1
theorem qPf {l:List De} {d:De} {g:Int} (h:qCW l d g=[]) (hk:d.kind=2):1<=d.n/\d.n<=6:=by
 unfold qCW at h
 rw [if_neg (by omega),if_pos hk] at h
 have h2:=(List.append_eq_nil_iff.1 h).2
 split at h2
 ·cases h2
 ·rename_i hn;omega
theorem qFj {l:List De} {d:De} {g:Int} (h:qCW l d g=[]) (hk:d.kind=3) (hp:¬ d.plate=[]):∃ t,qCR l d.plate=some t/\t.kind=2:=by
 unfold qCW at h
 rw [if_neg (by omega),if_neg (by omega),if_pos hk] at h
 have h2:=(List.append_eq_nil_iff.1 (List.append_eq_nil_iff.1 h).2).1
 unfold qB2 at h2
 rw [if_neg hp] at h2
 cases ht:qCR l d.plate with
 | none=>rw [ht] at h2;cases h2
 | some t=>
  rw [ht] at h2
  simp only [] at h2
  split at h2
  ·rename_i hk;exact⟨t,rfl,hk⟩
  ·cases h2
theorem qSR {α:Type} {l:List α} {x:α} (d:α) (h:x∈l):∃ k,k<l.length/\l.getD k d=x:=by
 obtain⟨k,hk,e⟩:=List.getElem_of_mem h
 exact⟨k,hk,by rw [List.getD_eq_getElem?_getD,List.getElem?_eq_getElem hk];exact e⟩
theorem qMc {ds:List De} {g:Int} (h:qBm g [] ds=[]) {k:Nat} (hk:k<ds.length) (h3:(ds.getD k de0).kind=3) (hp:¬ (ds.getD k de0).plate=[]):1<=qBT (ds.take k) (ds.getD k de0).plate/\qBT (ds.take k) (ds.getD k de0).plate<=6:=by
 have h1:=qCS ds [] h k hk
 rw [List.nil_append] at h1
 obtain⟨t,ht,k2⟩:=qFj h1 h3 hp
 obtain⟨j,hj,e⟩:=qSR de0 (List.mem_of_mem_take (qJV ht).1)
 have h2:=qCS ds [] h j hj
 rw [e] at h2
 rw [qBT,ht]
 simp only [if_pos k2]
 exact qPf h2 k2
theorem qE3:∀ (r l:List De),(qEb l r).length=(r.filter fun d=>decide (d.kind=2∨d.kind=3∨d.kind=4)).length
 | [],_=>rfl
 | d::r,l=>by
  rw [qEb,List.length_append,qE3 r,List.filter_cons]
  by_cases h:d.kind=2∨d.kind=3∨d.kind=4
  ·rw [if_pos h,if_pos (by rw [decide_eq_true h]),List.length_cons];exact Nat.add_comm 1 _
  ·rw [if_neg h,if_neg (by rw [decide_eq_false h];simp)];exact Nat.zero_add _
theorem base_nil {ds:List De} (h:qFP ds=[]):qCk ds=[]/\qBm (qAb ds) [] ds=[]/\qHZ ds=false:=by
 unfold qFP at h
 split at h
 ·rename_i hb
  obtain⟨h1,h2⟩:=List.append_eq_nil_iff.1 hb
  refine⟨h1,h2,?_⟩
  by_cases hx:qHZ ds=true
  ·rw [if_pos hx] at h;cases h
  ·exact Bool.not_eq_true _ ▸ hx
 ·rename_i hb;exact absurd h hb
set_option maxHeartbeats 40000000
structure DcOK (d:De):Prop where
 ok:OkD d
 refs:d.refs.length<=100
 len:d.cases.length<=100
 cases:∀ c∈d.cases,CaOK c
theorem qRp {ds:List De} {a:Nat} {es:List (List UInt8 × PV)} (l:List Iss) (h:CkS ds a es) (d:De) (hk:d.kind=1) (hl:(l++qCW (ds.take a) d (qAb ds)).length<=90000):HoldsG cx 49 [.ptr 0 0 0, .p d.pv] (ckS ds a es l) (nQ ds a es (l++qCW (ds.take a) d (qAb ds))):=by
 obtain⟨R,hR⟩:∃ R,R=l++qCW (ds.take a) d (qAb ds):=⟨_,rfl⟩
 rw [<- hR] at hl ⊢
 rw [qCW,if_pos hk,h.tk] at hR
 have hl1:l.length<=90000:=by rw [hR,List.length_append] at hl;omega
 obtain⟨dk,dn,dnm,dpl,drs,dcs⟩:=d
 simp only [] at hR
 refine qAC Tryz.func49 rfl rfl rfl ?_
 refine QAD (fun h0=>?_) (fun h0=>?_)
 ·have h0:(0:Int)<(a:Nat):=h0
  rw [if_pos (.inl (by omega))] at hR
  refine(qFk ds a es (l) 1 (by first | omega | (simp only [List.length_append,List.length_cons,List.length_nil];omega))).holds.useT [] [] rfl (sk) (sk) fun e0 H0 hq=>?_
  obtain⟨rfl,rfl⟩:=hq
  refine⟨rfl,_,⟨5,(4,isO ((l)++[Iss.mk 1 (a:Nat) []]))::(1,fmO es)::(0,ckO ds (a:Nat) 4 ((l)++[Iss.mk 1 (a:Nat) []]).length)::[(3,dcO ⟨dk,dn,dnm,dpl,drs,dcs⟩)]⟩,rfl,rfl,?_⟩
  exact⟨[],[(3,4)],[], .returned und,ckT ds a es (l++[Iss.mk 1 (a:Nat) []]),rfl,sk,sk,rfl,by rw [hR]⟩
 have h0:¬ (0:Int)<(a:Nat):=h0
 refine QAD (fun h1=>?_) (fun h1=>?_)
 ·have h1:dn<1:=h1
  rw [if_pos (.inr (.inl h1))] at hR
  refine(qFk ds a es (l) 1 (by first | omega | (simp only [List.length_append,List.length_cons,List.length_nil];omega))).holds.useT [] [] rfl (sk) (sk) fun e0 H0 hq=>?_
  obtain⟨rfl,rfl⟩:=hq
  refine⟨rfl,_,⟨5,(4,isO ((l)++[Iss.mk 1 (a:Nat) []]))::(1,fmO es)::(0,ckO ds (a:Nat) 4 ((l)++[Iss.mk 1 (a:Nat) []]).length)::[(3,dcO ⟨dk,dn,dnm,dpl,drs,dcs⟩)]⟩,rfl,rfl,?_⟩
  exact⟨[],[(3,4)],[], .returned und,ckT ds a es (l++[Iss.mk 1 (a:Nat) []]),rfl,sk,sk,rfl,by rw [hR]⟩
 have h1:¬ dn<1:=h1
 refine QAD (fun h2=>?_) (fun h2=>?_)
 ·have h2:60<dn:=h2
  rw [if_pos (.inr (.inr h2))] at hR
  refine(qFk ds a es (l) 1 (by first | omega | (simp only [List.length_append,List.length_cons,List.length_nil];omega))).holds.useT [] [] rfl (sk) (sk) fun e0 H0 hq=>?_
  obtain⟨rfl,rfl⟩:=hq
  refine⟨rfl,_,⟨5,(4,isO ((l)++[Iss.mk 1 (a:Nat) []]))::(1,fmO es)::(0,ckO ds (a:Nat) 4 ((l)++[Iss.mk 1 (a:Nat) []]).length)::[(3,dcO ⟨dk,dn,dnm,dpl,drs,dcs⟩)]⟩,rfl,rfl,?_⟩
  exact⟨[],[(3,4)],[], .returned und,ckT ds a es (l++[Iss.mk 1 (a:Nat) []]),rfl,sk,sk,rfl,by rw [hR]⟩
 ·have h2:¬ 60<dn:=h2
  rw [if_neg (by omega),List.append_nil] at hR
  exact⟨[],[(3,2)],[], .returned und,ckT ds a es (l),rfl,sk,sk,rfl,by rw [hR]⟩
theorem qRX {ds:List De} {a:Nat} {es:List (List UInt8 × PV)} (l:List Iss) (h:CkS ds a es) (d:De) (hd:OkD d) (hk:d.kind=2) (hl:(l++qCW (ds.take a) d (qAb ds)).length<=90000):HoldsG cx 50 [.ptr 0 0 0, .p d.pv] (ckS ds a es l) (nQ ds a es (l++qCW (ds.take a) d (qAb ds))):=by
 obtain⟨R,hR⟩:∃ R,R=l++qCW (ds.take a) d (qAb ds):=⟨_,rfl⟩
 rw [<- hR] at hl ⊢
 rw [qCW,if_neg (by omega),if_pos hk,<- List.append_assoc,h.tk] at hR
 have hl1:(l++qA7 (ds.take a) d).length<=90000:=by rw [hR,List.length_append] at hl;omega
 have hl2:l.length<=90000:=by rw [List.length_append] at hl1;omega
 have hT:=qLF l h d (hd.name (.inl hk)) (by omega)
 obtain⟨dk,dn,dnm,dpl,drs,dcs⟩:=d
 generalize l++qA7 (ds.take a) ⟨dk,dn,dnm,dpl,drs,dcs⟩=L1 at hT hR hl1
 simp only [] at hR hT
 refine qAC Tryz.func50 rfl rfl rfl ?_
 refine(hT).holds.useT [] [] rfl (sk) (sk) fun e0 H0 hq=>?_
 obtain⟨rfl,rfl⟩:=hq
 refine⟨rfl,_,⟨5,(4,isO (L1))::(1,fmO es)::(0,ckO ds (a:Nat) 4 (L1).length)::[(3,dcO ⟨dk,dn,dnm,dpl,drs,dcs⟩)]⟩,rfl,rfl,?_⟩
 refine QAD (fun h1=>?_) (fun h1=>?_)
 ·have h1:dn<1:=h1
  rw [if_pos (.inl h1)] at hR
  refine(qCf ds a es (L1) 5 dnm (by first | omega | (simp only [List.length_append,List.length_cons,List.length_nil];omega))).holds.useT [5] [(2,4)] rfl (sk) ⟨_,_,rfl,⟨rfl,rfl⟩,_,_,rfl,rfl,_,_,rfl,⟨_,rfl,by show 0+1<=1;decide,rfl⟩,rfl⟩ fun e0 H0 hq=>?_
  obtain⟨rfl,rfl⟩:=hq
  refine⟨rfl,_,⟨7,(6,isO ((L1)++[Iss.mk 5 (a:Nat) dnm]))::(1,fmO es)::(0,ckO ds (a:Nat) 6 ((L1)++[Iss.mk 5 (a:Nat) dnm]).length)::[(5,sfO dnm),(3,dcO ⟨dk,dn,dnm,dpl,drs,dcs⟩)]⟩,rfl,rfl,?_⟩
  exact⟨[],[(3,6)],[], .returned und,ckT ds a es (L1++[Iss.mk 5 (a:Nat) dnm]),rfl,sk,sk,rfl,by rw [hR]⟩
 have h1:¬ dn<1:=h1
 refine QAD (fun h2=>?_) (fun h2=>?_)
 ·have h2:6<dn:=h2
  rw [if_pos (.inr h2)] at hR
  refine(qCf ds a es (L1) 5 dnm (by first | omega | (simp only [List.length_append,List.length_cons,List.length_nil];omega))).holds.useT [5] [(2,4)] rfl (sk) ⟨_,_,rfl,⟨rfl,rfl⟩,_,_,rfl,rfl,_,_,rfl,⟨_,rfl,by show 0+1<=1;decide,rfl⟩,rfl⟩ fun e0 H0 hq=>?_
  obtain⟨rfl,rfl⟩:=hq
  refine⟨rfl,_,⟨7,(6,isO ((L1)++[Iss.mk 5 (a:Nat) dnm]))::(1,fmO es)::(0,ckO ds (a:Nat) 6 ((L1)++[Iss.mk 5 (a:Nat) dnm]).length)::[(5,sfO dnm),(3,dcO ⟨dk,dn,dnm,dpl,drs,dcs⟩)]⟩,rfl,rfl,?_⟩
  exact⟨[],[(3,6)],[], .returned und,ckT ds a es (L1++[Iss.mk 5 (a:Nat) dnm]),rfl,sk,sk,rfl,by rw [hR]⟩
 ·have h2:¬ 6<dn:=h2
  rw [if_neg (by omega),List.append_nil] at hR
  exact⟨[],[(3,4)],[], .returned und,ckT ds a es (L1),rfl,sk,sk,rfl,by rw [hR]⟩
theorem qQb {ds:List De} {a:Nat} {es:List (List UInt8 × PV)} (l:List Iss) (h:CkS ds a es) (d:De) (hd:DcOK d) (hk:d.kind=4) (hl:(l++qCW (ds.take a) d (qAb ds)).length<=90000):HoldsG cx 52 [.ptr 0 0 0, .p d.pv] (ckS ds a es l) (nQ ds a es (l++qCW (ds.take a) d (qAb ds))):=by
 obtain⟨R,hR⟩:∃ R,R=l++qCW (ds.take a) d (qAb ds):=⟨_,rfl⟩
 rw [<- hR] at hl ⊢
 rw [qCW,if_neg (by omega),if_neg (by omega),if_neg (by omega),if_pos hk,<- List.append_assoc,<- List.append_assoc] at hR
 have hl1:((l++qA7 (ds.take a) d)++qAd (ds.take a) d).length<=90000:=by rw [hR,List.length_append] at hl;omega
 have hl2:(l++qA7 (ds.take a) d).length<=90000:=by rw [List.length_append] at hl1;omega
 have hl3:l.length<=90000:=by rw [List.length_append] at hl2;omega
 have hT:=qLF l h d (hd.ok.name (.inr (.inr hk))) (by omega)
 have hC:=qSh (l++qA7 (ds.take a) d) h d (by omega)
 have hF:=qJg ((l++qA7 (ds.take a) d)++qAd (ds.take a) d) h d hd.ok.refs hd.refs (by omega)
 rw [<- hR] at hF
 generalize (l++qA7 (ds.take a) d)++qAd (ds.take a) d=L2 at hC hF hl1
 generalize l++qA7 (ds.take a) d=L1 at hT hC hl2
 clear hR hd hk
 obtain⟨dk,dn,dnm,dpl,drs,dcs⟩:=d
 refine qAC Tryz.func52 rfl rfl rfl ?_
 refine(hT).holds.useT [] [] rfl (sk) (sk) fun e0 H0 hq=>?_
 obtain⟨rfl,rfl⟩:=hq
 refine⟨rfl,_,⟨5,(4,isO (L1))::(1,fmO es)::(0,ckO ds (a:Nat) 4 (L1).length)::[(3,dcO ⟨dk,dn,dnm,dpl,drs,dcs⟩)]⟩,rfl,rfl,?_⟩
 refine(hC).holds.useT [] [(2,4)] rfl (sk) (sk) fun e0 H0 hq=>?_
 obtain⟨rfl,rfl⟩:=hq
 refine⟨rfl,_,⟨6,(5,isO (L2))::(1,fmO es)::(0,ckO ds (a:Nat) 5 (L2).length)::[(3,dcO ⟨dk,dn,dnm,dpl,drs,dcs⟩)]⟩,rfl,rfl,?_⟩
 refine(hF).holds.useT [] [(2,5)] rfl (sk) (sk) fun e0 H0 hq=>?_
 obtain⟨rfl,rfl⟩:=hq
 refine⟨rfl,_,⟨7,(6,isO (R))::(1,fmO es)::(0,ckO ds (a:Nat) 6 (R).length)::[(3,dcO ⟨dk,dn,dnm,dpl,drs,dcs⟩)]⟩,rfl,rfl,?_⟩
 exact⟨[],[(3,6)],[], .returned und,ckT ds a es R,rfl,sk,sk,rfl,rfl⟩
theorem qTZ {ds:List De} {a:Nat} {es:List (List UInt8 × PV)} (l:List Iss) (h:CkS ds a es) (d:De) (hd:DcOK d) (hk:d.kind=5) (hl:(l++qCW (ds.take a) d (qAb ds)).length<=90000):HoldsG cx 53 [.ptr 0 0 0, .p d.pv] (ckS ds a es l) (nQ ds a es (l++qCW (ds.take a) d (qAb ds))):=by
 obtain⟨R,hR⟩:∃ R,R=l++qCW (ds.take a) d (qAb ds):=⟨_,rfl⟩
 rw [<- hR] at hl ⊢
 rw [qCW,if_neg (by omega),if_neg (by omega),if_neg (by omega),if_neg (by omega),<- List.append_assoc] at hR
 have hl1:(l++qAQ (ds.take a) d [] d.refs).length<=90000:=by rw [hR,List.length_append] at hl;omega
 have hl3:l.length<=90000:=by rw [List.length_append] at hl1;omega
 have hF:=qJg l h d hd.ok.refs hd.refs (by omega)
 have hC:=qR5 (l++qAQ (ds.take a) d [] d.refs) h d (qAb ds) hk hd.refs hd.len hd.cases (by rw [<- hR];omega)
 rw [<- hR] at hC
 generalize l++qAQ (ds.take a) d [] d.refs=L1 at hC hF hl1
 clear hR hd hk
 obtain⟨dk,dn,dnm,dpl,drs,dcs⟩:=d
 refine qAC Tryz.func53 rfl rfl rfl ?_
 refine(hF).holds.useT [] [] rfl (sk) (sk) fun e0 H0 hq=>?_
 obtain⟨rfl,rfl⟩:=hq
 refine⟨rfl,_,⟨5,(4,isO (L1))::(1,fmO es)::(0,ckO ds (a:Nat) 4 (L1).length)::[(3,dcO ⟨dk,dn,dnm,dpl,drs,dcs⟩)]⟩,rfl,rfl,?_⟩
 refine(hC).holds.useT [] [(2,4)] rfl (sk) (sk) fun e0 H0 hq=>?_
 obtain⟨rfl,rfl⟩:=hq
 refine⟨rfl,_,⟨6,(5,isO (R))::(1,fmO es)::(0,ckO ds (a:Nat) 5 (R).length)::[(3,dcO ⟨dk,dn,dnm,dpl,drs,dcs⟩)]⟩,rfl,rfl,?_⟩
 exact⟨[],[(3,5)],[], .returned und,ckT ds a es R,rfl,sk,sk,rfl,rfl⟩
theorem qTJ {ds:List De} {a:Nat} {es:List (List UInt8 × PV)} (l:List Iss) (h:CkS ds a es) (d:De) (hd:DcOK d) (hk:d.kind=3) (hpos:1<=ds.length) (hl:(l++qCW (ds.take a) d (qAb ds)).length<=90000):HoldsG cx 51 [.ptr 0 0 0, .p d.pv] (ckS ds a es l) (nQ ds a es (l++qCW (ds.take a) d (qAb ds))):=by
 obtain⟨R,hR⟩:∃ R,R=l++qCW (ds.take a) d (qAb ds):=⟨_,rfl⟩
 rw [<- hR] at hl ⊢
 rw [qCW,if_neg (by omega),if_neg (by omega),if_pos hk,<- List.append_assoc,<- List.append_assoc,<- List.append_assoc,<- List.append_assoc] at hR
 obtain⟨L1,e1⟩:∃ L,L=l++qA7 (ds.take a) d:=⟨_,rfl⟩
 obtain⟨L2,e2⟩:∃ L,L=L1++qB2 (ds.take a) d:=⟨_,rfl⟩
 obtain⟨L3,e3⟩:∃ L,L=L2++qAd (ds.take a) d:=⟨_,rfl⟩
 obtain⟨L4,e4⟩:∃ L,L=L3++qAQ (ds.take a) d [] d.refs:=⟨_,rfl⟩
 rw [<- e1,<- e2,<- e3,<- e4] at hR
 have hl4:L4.length<=90000:=by rw [hR,List.length_append] at hl;omega
 have hl3:L3.length<=90000:=by rw [e4,List.length_append] at hl4;omega
 have hl2:L2.length<=90000:=by rw [e3,List.length_append] at hl3;omega
 have hl1:L1.length<=90000:=by rw [e2,List.length_append] at hl2;omega
 have hl0:l.length<=90000:=by rw [e1,List.length_append] at hl1;omega
 obtain⟨g,hg⟩:∃ g,g=qAb ds:=⟨_,rfl⟩
 have hT:=qLF l h d (hd.ok.name (.inr (.inl hk))) (by omega)
 have hC:=qSh L2 h d (by omega)
 have hF:=qJg L3 h d hd.ok.refs hd.refs (by omega)
 have hX:=qR4 L4 h d g (by omega) hd.refs hd.len hd.cases (by rw [hg,<- hR];omega)
 rw [hg,<- hR,<- hg] at hX
 rw [<- e1] at hT
 rw [<- e3] at hC
 rw [<- e4] at hF
 have h0:∃ t:De,(ds.map De.cells)[0]?=some t.cells/\g=if t.kind=1 then t.n else 0:=by
  cases ds with
  | nil=>cases hpos
  | cons t r=>exact⟨t,rfl,hg⟩
 clear hg
 obtain⟨⟨ek,en,enm,epl,ers,ecs⟩,h0,hg⟩:=h0
 simp only [] at hg
 clear hR e1 e3 e4 hk
 obtain⟨dk,dn,dnm,dpl,drs,dcs⟩:=d
 rw [qB2,h.tk] at e2
 simp only [] at e2
 by_cases hp:dpl=[]
 ·rw [if_pos hp,List.append_nil] at e2
  refine qAC Tryz.func51 rfl rfl rfl ?_
  refine(hT).holds.useT [] [] rfl (sk) (sk) fun e0 H0 hq=>?_
  obtain⟨rfl,rfl⟩:=hq
  refine⟨rfl,_,⟨5,(4,isO (L1))::(1,fmO es)::(0,ckO ds (a:Nat) 4 (L1).length)::[(3,dcO ⟨dk,dn,dnm,dpl,drs,dcs⟩)]⟩,rfl,rfl,?_⟩
  refine And.intro (fun _=>?_) (fun h=>absurd hp h)
  subst e2
  refine(hC).holds.useT [] [(2,4)] rfl (sk) (sk) fun e0 H0 hq=>?_
  obtain⟨rfl,rfl⟩:=hq
  refine⟨rfl,_,⟨6,(5,isO (L3))::(1,fmO es)::(0,ckO ds (a:Nat) 5 (L3).length)::[(3,dcO ⟨dk,dn,dnm,dpl,drs,dcs⟩)]⟩,rfl,rfl,?_⟩
  refine(hF).holds.useT [] [(2,5)] rfl (sk) (sk) fun e0 H0 hq=>?_
  obtain⟨rfl,rfl⟩:=hq
  refine⟨rfl,_,⟨7,(6,isO (L4))::(1,fmO es)::(0,ckO ds (a:Nat) 6 (L4).length)::[(3,dcO ⟨dk,dn,dnm,dpl,drs,dcs⟩)]⟩,rfl,rfl,?_⟩
  refine⟨_,⟨by decide,(De.mk ek en enm epl ers ecs).cells,h0,rfl⟩,?_⟩
  refine QAD (fun e1=>?_) (fun e1=>?_)
  ·have e1:ek=1:=e1
   rw [if_pos e1] at hg
   refine⟨_,⟨by decide,(De.mk ek en enm epl ers ecs).cells,h0,rfl⟩,?_⟩
   subst hg
   refine hX.holds.useT [] [(2,6),(4,7)] rfl (sk) (sk) fun e0 H0 hq=>?_
   obtain⟨rfl,rfl⟩:=hq
   refine⟨rfl,_,⟨9,(8,isO R)::(7,smO g)::(3,dcO ⟨dk,dn,dnm,dpl,drs,dcs⟩)::(1,fmO es)::(0,ckO ds (a:Nat) 8 R.length)::[]⟩,rfl,rfl,?_⟩
   exact⟨[],[(3,8)],[], .returned und,ckT ds a es R,rfl,sk,sk,rfl,rfl⟩
  ·have e1:¬ ek=1:=e1
   rw [if_neg e1] at hg
   subst hg
   refine hX.holds.useT [] [(2,6),(4,7)] rfl (sk) (sk) fun e0 H0 hq=>?_
   obtain⟨rfl,rfl⟩:=hq
   refine⟨rfl,_,⟨9,(8,isO R)::(7,smO 0)::(3,dcO ⟨dk,dn,dnm,dpl,drs,dcs⟩)::(1,fmO es)::(0,ckO ds (a:Nat) 8 R.length)::[]⟩,rfl,rfl,?_⟩
   exact⟨[],[(3,8)],[], .returned und,ckT ds a es R,rfl,sk,sk,rfl,rfl⟩
 rw [if_neg hp] at e2
 cases hv:qCR (ds.take a) dpl with
 | none=>
  have hf:=h.none hp hv
  rw [hv] at e2
  simp only [] at e2
  refine qAC Tryz.func51 rfl rfl rfl ?_
  refine(hT).holds.useT [] [] rfl (sk) (sk) fun e0 H0 hq=>?_
  obtain⟨rfl,rfl⟩:=hq
  refine⟨rfl,_,⟨5,(4,isO (L1))::(1,fmO es)::(0,ckO ds (a:Nat) 4 (L1).length)::[(3,dcO ⟨dk,dn,dnm,dpl,drs,dcs⟩)]⟩,rfl,rfl,?_⟩
  refine And.intro (fun h=>absurd h hp) (fun _=>?_)
  refine VDraw.seq rfl ?_
  refine⟨_, .inr ⟨hf,rfl⟩,?_⟩
  refine(qCf ds a es (L1) 3 dpl (by first | omega | (simp only [List.length_append,List.length_cons,List.length_nil];omega))).holds.useT [5] [(2,4)] rfl (sk) ⟨_,_,rfl,⟨rfl,rfl⟩,_,_,rfl,rfl,_,_,rfl,⟨_,rfl,by show 0+1<=1;decide,rfl⟩,rfl⟩ fun e0 H0 hq=>?_
  obtain⟨rfl,rfl⟩:=hq
  refine⟨rfl,_,⟨7,(6,isO ((L1)++[Iss.mk 3 (a:Nat) dpl]))::(1,fmO es)::(0,ckO ds (a:Nat) 6 ((L1)++[Iss.mk 3 (a:Nat) dpl]).length)::[(5,sfO dpl),(3,dcO ⟨dk,dn,dnm,dpl,drs,dcs⟩)]⟩,rfl,rfl,?_⟩
  rw [<- e2]
  refine(hC).holds.useT [] [(2,6)] rfl (sk) (sk) fun e0 H0 hq=>?_
  obtain⟨rfl,rfl⟩:=hq
  refine⟨rfl,_,⟨8,(7,isO (L3))::(1,fmO es)::(0,ckO ds (a:Nat) 7 (L3).length)::[(5,sfO dpl),(3,dcO ⟨dk,dn,dnm,dpl,drs,dcs⟩)]⟩,rfl,rfl,?_⟩
  refine(hF).holds.useT [] [(2,7)] rfl (sk) (sk) fun e0 H0 hq=>?_
  obtain⟨rfl,rfl⟩:=hq
  refine⟨rfl,_,⟨9,(8,isO (L4))::(1,fmO es)::(0,ckO ds (a:Nat) 8 (L4).length)::[(5,sfO dpl),(3,dcO ⟨dk,dn,dnm,dpl,drs,dcs⟩)]⟩,rfl,rfl,?_⟩
  refine⟨_,⟨by decide,(De.mk ek en enm epl ers ecs).cells,h0,rfl⟩,?_⟩
  refine QAD (fun e1=>?_) (fun e1=>?_)
  ·have e1:ek=1:=e1
   rw [if_pos e1] at hg
   refine⟨_,⟨by decide,(De.mk ek en enm epl ers ecs).cells,h0,rfl⟩,?_⟩
   subst hg
   refine hX.holds.useT [] [(2,8),(4,9)] rfl (sk) (sk) fun e0 H0 hq=>?_
   obtain⟨rfl,rfl⟩:=hq
   refine⟨rfl,_,⟨11,(10,isO R)::(9,smO g)::(3,dcO ⟨dk,dn,dnm,dpl,drs,dcs⟩)::(1,fmO es)::(0,ckO ds (a:Nat) 10 R.length)::[(5,sfO dpl)]⟩,rfl,rfl,?_⟩
   exact⟨[],[(3,10)],[], .returned und,ckT ds a es R,rfl,sk,sk,rfl,rfl⟩
  ·have e1:¬ ek=1:=e1
   rw [if_neg e1] at hg
   subst hg
   refine hX.holds.useT [] [(2,8),(4,9)] rfl (sk) (sk) fun e0 H0 hq=>?_
   obtain⟨rfl,rfl⟩:=hq
   refine⟨rfl,_,⟨11,(10,isO R)::(9,smO 0)::(3,dcO ⟨dk,dn,dnm,dpl,drs,dcs⟩)::(1,fmO es)::(0,ckO ds (a:Nat) 10 R.length)::[(5,sfO dpl)]⟩,rfl,rfl,?_⟩
   exact⟨[],[(3,10)],[], .returned und,ckT ds a es R,rfl,sk,sk,rfl,rfl⟩
 | some t=>
  obtain⟨i,hf,hl,hc⟩:=h.some hp hv
  rw [hv] at e2
  obtain⟨tk,tn,tnm,tpl,trs,tcs⟩:=t
  simp only [] at e2
  refine qAC Tryz.func51 rfl rfl rfl ?_
  refine(hT).holds.useT [] [] rfl (sk) (sk) fun e0 H0 hq=>?_
  obtain⟨rfl,rfl⟩:=hq
  refine⟨rfl,_,⟨5,(4,isO (L1))::(1,fmO es)::(0,ckO ds (a:Nat) 4 (L1).length)::[(3,dcO ⟨dk,dn,dnm,dpl,drs,dcs⟩)]⟩,rfl,rfl,?_⟩
  refine And.intro (fun h=>absurd h hp) (fun _=>?_)
  refine VDraw.seq rfl ?_
  refine⟨_, .inl ⟨_,hf,rfl⟩,?_⟩
  refine⟨_,⟨by omega,(De.mk tk tn tnm tpl trs tcs).cells,hc,rfl⟩,?_⟩
  refine And.intro (fun k2=>?_) (fun k2=>?_)
  ·have k2:tk=2:=k2
   rw [if_pos k2,List.append_nil] at e2
   subst e2
   refine(hC).holds.useT [] [(2,4)] rfl (sk) (sk) fun e0 H0 hq=>?_
   obtain⟨rfl,rfl⟩:=hq
   refine⟨rfl,_,⟨6,(5,isO (L3))::(1,fmO es)::(0,ckO ds (a:Nat) 5 (L3).length)::[(3,dcO ⟨dk,dn,dnm,dpl,drs,dcs⟩)]⟩,rfl,rfl,?_⟩
   refine(hF).holds.useT [] [(2,5)] rfl (sk) (sk) fun e0 H0 hq=>?_
   obtain⟨rfl,rfl⟩:=hq
   refine⟨rfl,_,⟨7,(6,isO (L4))::(1,fmO es)::(0,ckO ds (a:Nat) 6 (L4).length)::[(3,dcO ⟨dk,dn,dnm,dpl,drs,dcs⟩)]⟩,rfl,rfl,?_⟩
   refine⟨_,⟨by decide,(De.mk ek en enm epl ers ecs).cells,h0,rfl⟩,?_⟩
   refine QAD (fun e1=>?_) (fun e1=>?_)
   ·have e1:ek=1:=e1
    rw [if_pos e1] at hg
    refine⟨_,⟨by decide,(De.mk ek en enm epl ers ecs).cells,h0,rfl⟩,?_⟩
    subst hg
    refine hX.holds.useT [] [(2,6),(4,7)] rfl (sk) (sk) fun e0 H0 hq=>?_
    obtain⟨rfl,rfl⟩:=hq
    refine⟨rfl,_,⟨9,(8,isO R)::(7,smO g)::(3,dcO ⟨dk,dn,dnm,dpl,drs,dcs⟩)::(1,fmO es)::(0,ckO ds (a:Nat) 8 R.length)::[]⟩,rfl,rfl,?_⟩
    exact⟨[],[(3,8)],[], .returned und,ckT ds a es R,rfl,sk,sk,rfl,rfl⟩
   ·have e1:¬ ek=1:=e1
    rw [if_neg e1] at hg
    subst hg
    refine hX.holds.useT [] [(2,6),(4,7)] rfl (sk) (sk) fun e0 H0 hq=>?_
    obtain⟨rfl,rfl⟩:=hq
    refine⟨rfl,_,⟨9,(8,isO R)::(7,smO 0)::(3,dcO ⟨dk,dn,dnm,dpl,drs,dcs⟩)::(1,fmO es)::(0,ckO ds (a:Nat) 8 R.length)::[]⟩,rfl,rfl,?_⟩
    exact⟨[],[(3,8)],[], .returned und,ckT ds a es R,rfl,sk,sk,rfl,rfl⟩
  ·have k2:¬ tk=2:=k2
   rw [if_neg k2] at e2
   refine(qCf ds a es (L1) 4 dpl (by first | omega | (simp only [List.length_append,List.length_cons,List.length_nil];omega))).holds.useT [5] [(2,4)] rfl (sk) ⟨_,_,rfl,⟨rfl,rfl⟩,_,_,rfl,rfl,_,_,rfl,⟨_,rfl,by show 0+1<=1;decide,rfl⟩,rfl⟩ fun e0 H0 hq=>?_
   obtain⟨rfl,rfl⟩:=hq
   refine⟨rfl,_,⟨7,(6,isO ((L1)++[Iss.mk 4 (a:Nat) dpl]))::(1,fmO es)::(0,ckO ds (a:Nat) 6 ((L1)++[Iss.mk 4 (a:Nat) dpl]).length)::[(5,sfO dpl),(3,dcO ⟨dk,dn,dnm,dpl,drs,dcs⟩)]⟩,rfl,rfl,?_⟩
   rw [<- e2]
   refine(hC).holds.useT [] [(2,6)] rfl (sk) (sk) fun e0 H0 hq=>?_
   obtain⟨rfl,rfl⟩:=hq
   refine⟨rfl,_,⟨8,(7,isO (L3))::(1,fmO es)::(0,ckO ds (a:Nat) 7 (L3).length)::[(5,sfO dpl),(3,dcO ⟨dk,dn,dnm,dpl,drs,dcs⟩)]⟩,rfl,rfl,?_⟩
   refine(hF).holds.useT [] [(2,7)] rfl (sk) (sk) fun e0 H0 hq=>?_
   obtain⟨rfl,rfl⟩:=hq
   refine⟨rfl,_,⟨9,(8,isO (L4))::(1,fmO es)::(0,ckO ds (a:Nat) 8 (L4).length)::[(5,sfO dpl),(3,dcO ⟨dk,dn,dnm,dpl,drs,dcs⟩)]⟩,rfl,rfl,?_⟩
   refine⟨_,⟨by decide,(De.mk ek en enm epl ers ecs).cells,h0,rfl⟩,?_⟩
   refine QAD (fun e1=>?_) (fun e1=>?_)
   ·have e1:ek=1:=e1
    rw [if_pos e1] at hg
    refine⟨_,⟨by decide,(De.mk ek en enm epl ers ecs).cells,h0,rfl⟩,?_⟩
    subst hg
    refine hX.holds.useT [] [(2,8),(4,9)] rfl (sk) (sk) fun e0 H0 hq=>?_
    obtain⟨rfl,rfl⟩:=hq
    refine⟨rfl,_,⟨11,(10,isO R)::(9,smO g)::(3,dcO ⟨dk,dn,dnm,dpl,drs,dcs⟩)::(1,fmO es)::(0,ckO ds (a:Nat) 10 R.length)::[(5,sfO dpl)]⟩,rfl,rfl,?_⟩
    exact⟨[],[(3,10)],[], .returned und,ckT ds a es R,rfl,sk,sk,rfl,rfl⟩
   ·have e1:¬ ek=1:=e1
    rw [if_neg e1] at hg
    subst hg
    refine hX.holds.useT [] [(2,8),(4,9)] rfl (sk) (sk) fun e0 H0 hq=>?_
    obtain⟨rfl,rfl⟩:=hq
    refine⟨rfl,_,⟨11,(10,isO R)::(9,smO 0)::(3,dcO ⟨dk,dn,dnm,dpl,drs,dcs⟩)::(1,fmO es)::(0,ckO ds (a:Nat) 10 R.length)::[(5,sfO dpl)]⟩,rfl,rfl,?_⟩
    exact⟨[],[(3,10)],[], .returned und,ckT ds a es R,rfl,sk,sk,rfl,rfl⟩
set_option maxHeartbeats 4000000
theorem qLw {l:List (List UInt8)} {s:List UInt8} (h:inL l s=true):s∈l:=by
 induction l with
 | nil=>simp [inL] at h
 | cons x r ih=>
  simp only [inL,Bool.or_eq_true,decide_eq_true_eq] at h
  rcases h with rfl | h
  ·simp
  ·exact List.mem_cons_of_mem _ (ih h)
theorem qJ6 {k:Int} {t:List UInt8} (h:qAw k t=true):1<=t.length/\t.length<=10:=by
 have ne:∀ {t:List UInt8},t ≠ []->1<=t.length:=by intro t ht;cases t <;> simp at ht ⊢
 unfold qAw at h
 split at h
 ·simp [qAk] at h;exact⟨ne h.1.1.1.1,h.1.1.1.2⟩
 ·split at h
  ·exact(by decide:∀ t∈keysL,1<=t.length/\t.length<=10) t (qLw h)
  ·split at h
   ·simp [qMu] at h
    exact⟨ne h.1.1.1,by omega⟩
   ·split at h
    ·exact(by decide:∀ t∈marksL,1<=t.length/\t.length<=10) t (qLw h)
    ·cases h
structure JS where
 k:Nat
 a:Nat
 b:Nat
 lg:Nat
 n:Nat
 xs:List UInt8
 pre:List UInt8
structure JI where
 a:Nat
 b:Nat
 n:Nat
 xs:List UInt8
def tenL:List UInt8:=[48,49,50,51,52,53,54,55,56,57]
def qQS:Nat->Nat->List UInt8
 | 0,_=>[]
 | f+1,n=>if n<10 then [tenL.getD n 0] else qQS f (n / 10)++[tenL.getD (n % 10) 0]
theorem qQR:∀ f n,(qQS f n).length<=f
 | 0,_=>by simp [qQS]
 | f+1,n=>by
  simp only [qQS]
  split
  ·simp
  ·have:=qQR f (n / 10)
   simp
   omega
structure Dr where
 kind:UInt8
 which:UInt8
 letters:List UInt8
 n:UInt16
 down:UInt8
 over:UInt8
abbrev Dr.cells (d:Dr):List PV:=[u8 d.kind,u8 d.which, .lst (d.letters.map u8), .int .u16 (d.n.toNat:Int),u8 d.down,u8 d.over]
def qXO (d:Dr):Prop:=0<d.down.toNat % 3/\d.down.toNat<100
instance (d:Dr):Decidable (qXO d):=inferInstanceAs (Decidable (_/\_))
structure WS where
 k:Nat
 a:Nat
 b:Nat
 out:List Wd
def qXP (c:UInt8):Prop:=c.toNat=32∨c.toNat=10
def qVy (r:List UInt8):Bool:=match r with
 | []=>true
 | c::_=>!(decide (c.toNat=32) || decide (c.toNat=10)) && !List.isPrefixOf [45,45] r && !List.isPrefixOf [40,42] r
def qVd (g r:List UInt8):Prop:=∀ f,(g++r).length<=f->qCI f (g++r)=.inl g.length
theorem qO5 {f:UInt8->Bool} {t:List UInt8}:qAa f t=t.length ↔ ∀ c∈t,f c=true:=by
 induction t with
 | nil=>simp [qAa]
 | cons c t ih=>
  have hl:=qE4 f t
  simp only [qAa,List.length_cons]
  by_cases h:f c=true
  ·rw [if_pos h]
   constructor
   ·intro e x hx
    rcases List.mem_cons.1 hx with rfl | hx
    ·exact h
    ·exact ih.1 (by omega) x hx
   ·intro e;rw [ih.2 fun x hx=>e x (by simp [hx])]
  ·rw [if_neg h]
   constructor
   ·intro e;omega
   ·intro e;exact absurd (e c (by simp)) h
def qVG (c:UInt8):Prop:=qXP c∨c.toNat=40
inductive Fol:List UInt8->List UInt8->Prop
 | nil (a:List UInt8):Fol a []
 | bl (a:List UInt8) (c:UInt8) (b:List UInt8) (h:qVG c):Fol a (c::b)
 | same (c:UInt8) (a b:List UInt8):Fol (c::a) (c::b)
inductive Lay:Nat × Nat->List UInt8->List Wd->List UInt8->Prop
 | nil (p:Nat × Nat) (suf:List UInt8):Lay p [] [] suf
 | cons {p:Nat × Nat} {g T:List UInt8} {w:Wd} {ws:List Wd} {suf:List UInt8} {l c:Nat} (hsk:qVd g (w.text++(T++suf))) (h1:qCo (w.text++(T++suf))=(w.kind,w.text)) (hr:qAw w.kind w.text=true)
   (hp:qQm p g=(l,c)) (hl:w.line=l) (hc:w.col=c) (h:Lay (l,c+w.text.length) T ws suf):Lay p (g++(w.text++T)) (w::ws) suf
theorem Lay.len {p:Nat × Nat} {T:List UInt8} {ws:List Wd} {suf:List UInt8} (h:Lay p T ws suf):ws.length<=T.length:=by
 induction h with
 | nil=>simp
 | cons hsk h1 hr hp hl hc h ih=>
  have:=qJ6 hr
  simp only [List.length_cons,List.length_append]
  omega
abbrev qCl:=List (List UInt8)
def qFV (n:Int):List UInt8:=qQS 4 n.toNat
def qQ0 (n:Int):qCl:=if n<0 then [qDw,qFV (-n)] else [qFV n]
def qNo (r:Rf):qCl:=if r.mode=3 then [tLB,qMY,tRB] else if r.mode=2 then [tLB,qFV r.n,tRB] else if r.mode=1 then(if 0<r.n then [tLB,r.plate,qNp,qFV r.n,tRB] else [tLB,r.plate,tRB]) else []
def qQz (r:Rf):qCl:=r.name::qNo r
def qS3 {α:Type} (f:α->qCl):List α->qCl
 | []=>[]
 | a::r=>f a++r.flatMap fun b=>qEU::f b
def qUG (k:Int):List UInt8:=if k=1 then tEq else if k=2 then tNe else if k=3 then tLt else tLe
def lvl (op:Int):Nat:=if op=9 then 1 else if op=8 then 2 else if op=7 then 3 else 4
def inT (k:Nat) (p:Int × qCl):qCl:=if lvl p.1<k then tLP::(p.2++[tRP]) else p.2
def qJN (op n rel val:Int) (r:Rf) (st:List Int):qCl:=
 if op=6 then [qH2,tLP]++(qQz r++[tEq,qFV val,tRP,qUG rel,qFV n])
 else if op=5 then qQz r++([tIn,tLC]++(qS3 (fun n=>[qFV n]) st++[tRC]))
 else qQz r++[qUG op,qFV n]
def qVD (op n rel val:Int) (r:Rf) (st:List Int) (ps:List (Int × qCl)):qCl:=
 if op=9 then inT 1 (ps.getD 0 (0,[]))++tOr::inT 2 (ps.getD 1 (0,[]))
 else if op=8 then inT 2 (ps.getD 0 (0,[]))++qOY::inT 3 (ps.getD 1 (0,[]))
 else if op=7 then qQy::inT 3 (ps.getD 0 (0,[]))
 else qJN op n rel val r st
def Cd.op:Cd->Int
 | .mk op _ _ _ _ _ _=>op
mutual
def qBL:Cd->qCl
 | .mk op n rel val r st ar=>qVD op n rel val r st (qEY ar)
def qEY:List Cd->List (Int × qCl)
 | []=>[]
 | c::r=>(c.op,qBL c)::qEY r
end
def qBX (k:Nat) (c:Cd):qCl:=inT k (c.op,qBL c)
def qKK (l:List Int):qCl:=l.flatMap qQ0
def qDf:List Cs->qCl
 | []=>[]
 | [c]=>qNs::qDP::qKK c.nums
 | c::d::r=>qBL c.cond++(qDP::(qKK c.nums++(qBh::qDf (d::r))))
def qI1 (l:List Cs):qCl:=tLC::(qDf l++[tRC])
def qGz (key:List UInt8) (l:List Rf):qCl:=if l=[] then [] else key::qS3 qQz l
def qRn (d:De):qCl:=
 if d.kind=1 then [qH1,qFV d.n] else if d.kind=2 then [qH0,d.name,tEq,qFV d.n]
 else if d.kind=3 then [qNq,d.name]++((if d.plate=[] then [] else [tLB,d.plate,tRB])++([qDP,qFV d.n]++(qGz qEQ d.refs++(tEq::qI1 d.cases))))
 else if d.kind=4 then [qFY,d.name,qDP,qFV d.n]++qGz qEa d.refs
 else if d.kind=5 then qNr::(qGz qEQ d.refs++(tEq::qI1 d.cases)) else []
def declT (d:De):qCl:=qRn d++[qBh]
def spW:Bool->qCl->List UInt8
 | _,[]=>[]
 | b,w::r=>(if b then [32] else [])++(w++spW true r)
theorem qO7:∀ (b:Bool) (x y:qCl),spW b (x++y)=spW b x++spW (b || decide (x ≠ [])) y
 | b,[],y=>by simp [spW]
 | b,w::r,y=>by
  show(if b then [32] else [])++(w++spW true (r++y))=((if b then [32] else [])++(w++spW true r))++_
  rw [qO7 true r y]
  simp [List.append_assoc]
theorem qLM (x y:qCl):spW true (x++y)=spW true x++spW true y:=by rw [qO7];simp
theorem qUY:∀ {x:qCl},x ≠ []->spW true x=32::spW false x
 | [],h=>absurd rfl h
 | _::_,_=>rfl
def qWK (d:De):List UInt8:=spW false (declT d)++[10]
def qQ8 (ds:List De):List UInt8:=ds.flatMap qWK
def qVW (ds:List De):Nat:=(ds.map fun d=>(declT d).length).sum
end Go.Proofs.YtmepdfingcmkmaaGreatDoor
namespace Go.Proofs.YtmepdfingcmkmaaGreatDoor
open Go Y
set_option maxRecDepth 100000
set_option maxHeartbeats 4000000
theorem qOu:∀ n,n<10->(tenL.getD n 0).toNat=48+n:=by decide
structure DigOK (t:List UInt8) (n:Nat) (f:Nat):Prop where
 ne:t ≠ []
 len:t.length<=f
 dig:∀ c∈t,48<=c.toNat/\c.toNat<=57
 zero:n=0->t=[48]
 head:0<n->(t.headD 0).toNat ≠ 48
 val:qNm t=n
theorem qSg:∀ (f n:Nat),n<10 ^ (f+1)->DigOK (qQS (f+1) n) n (f+1)
 | f,n,h=>by
  rw [qQS]
  by_cases c:n<10
  ·rw [if_pos c]
   have hv:=qOu n c
   refine⟨by simp,by simp,fun x hx=>?_,fun e=>by subst e;rfl,fun e=>?_,?_⟩
   ·rw [List.mem_singleton.1 hx];omega
   ·show(tenL.getD n 0).toNat ≠ 48;omega
   ·show 10 * (0:Int)+(((tenL.getD n 0).toNat:Int) - 48)=n;omega
  ·rw [if_neg c]
   obtain⟨g,rfl⟩:∃ g,f=g+1:=by
    cases f with
    | zero=>exfalso;omega
    | succ g=>exact⟨g,rfl⟩
   have ih:=qSg g (n / 10) (by rw [Nat.pow_succ] at h;omega)
   have hv:=qOu (n % 10) (by omega)
   refine⟨by simp,by have:=ih.len;simp only [List.length_append,List.length_singleton];omega,fun x hx=>?_,fun e=>by omega,fun _=>?_,?_⟩
   ·rcases List.mem_append.1 hx with hx | hx
    ·exact ih.dig x hx
    ·rw [List.mem_singleton.1 hx];omega
   ·have hh:=ih.head (by omega)
    have hne:=ih.ne
    cases hd:qQS (g+1) (n / 10) with
    | nil=>exact absurd hd hne
    | cons x r=>rw [hd] at hh;exact hh
   ·rw [qGk,ih.val];omega
theorem qRy {n:Int} (h:qB0 n=true):qMu (qFV n)=true/\qNm (qFV n)=n:=by
 simp only [qB0,Bool.and_eq_true,decide_eq_true_eq] at h
 have hd:=qSg 3 n.toNat (by show n.toNat<10000;omega)
 refine⟨?_,by rw [qFV,hd.val];omega⟩
 unfold qMu qFV
 simp only [Bool.and_eq_true,decide_eq_true_eq,Bool.or_eq_true]
 refine⟨⟨⟨hd.ne,hd.len⟩,qO5.2 fun c hc=>?_⟩,?_⟩
 ·have:=hd.dig c hc
  simp only [qCj,Bool.and_eq_true,decide_eq_true_eq];exact this
 ·by_cases c:n.toNat=0
  ·exact .inl (hd.zero c)
  ·exact .inr (hd.head (by omega))
def AtW (ws:List Wd):Nat->qCl->Prop
 | _,[]=>True
 | q,t::r=>txt ws q=t/\AtW ws (q+1) r
theorem qEI {t:List UInt8} (h:qAk t=true):t ≠ []/\inL keysL t=false/\qMu t=false/\inL marksL t=false:=by
 simp only [qAk,Bool.and_eq_true,decide_eq_true_eq,Bool.not_eq_true'] at h
 obtain⟨⟨⟨⟨h1,h2⟩,h3⟩,h4⟩,h5⟩:=h
 refine⟨h1,h5,?_,?_⟩
 ·cases e:qMu t with
  | false=>rfl
  | true=>
   exfalso
   have hd:=(qLf e).2
   cases t with
   | nil=>exact h1 rfl
   | cons c r=>
    have:=hd c (List.mem_cons_self ..)
    have h3:isLet c=true:=h3
    simp only [isLet,Bool.or_eq_true,Bool.and_eq_true,decide_eq_true_eq] at h3
    omega
 ·cases e:inL marksL t with
  | false=>rfl
  | true=>
   exfalso
   have key:∀ s∈marksL,isLet (s.headD 0)=false:=by decide
   rw [key t (qLw e)] at h3
   cases h3
section
variable {ws:List Wd} (hg:GoodW ws)
include hg
end
end Go.Proofs.YtmepdfingcmkmaaGreatDoor
namespace Go.Proofs.YtmepdfingcmkmaaGreatDoor
open Go Y
set_option maxRecDepth 100000
set_option maxHeartbeats 4000000
theorem qQB {l:List Int}:∀ (f k:Nat),qOb l f k=true->∀ i,k<=i->i<k+f->qB0 (l.getD i 0)=true/\(i=0∨l.getD (i - 1) 0<l.getD i 0)
 | 0,k,_,i,h1,h2=>absurd h2 (by omega)
 | f+1,k,h,i,h1,h2=>by
  rw [qOb] at h
  simp only [Bool.and_eq_true,Bool.or_eq_true,decide_eq_true_eq] at h
  by_cases c:i=k
  ·subst c
   exact h.1
  ·exact qQB f (k+1) h.2 i (by omega) (by omega)
theorem qH5 {l:List Int} (h:qGp l=true):l ≠ []/\(∀ n∈l,qB0 n=true)/\qUF l=l:=by
 simp only [qGp,Bool.and_eq_true,decide_eq_true_eq] at h
 obtain⟨⟨h1,h2⟩,h3⟩:=h
 have hi:=qQB l.length 0 h3
 refine⟨fun e=>by rw [e] at h1;simp at h1,fun n hn=>?_,?_⟩
 ·obtain⟨i,hi1,rfl⟩:=List.getElem_of_mem hn
  have:=(hi i (by omega) (by omega)).1
  rw [List.getD_eq_getElem?_getD,List.getElem?_eq_getElem hi1] at this
  exact this
 ·have hinc:Inc l:=by
   rw [Inc,List.pairwise_iff_getElem]
   have key:∀ (d i:Nat),i+d+1<l.length->l.getD i 0<l.getD (i+d+1) 0:=by
    intro d
    induction d with
    | zero=>
     intro i hd
     have:=(hi (i+0+1) (by omega) (by omega)).2
     rcases this with h | h
     ·omega
     ·exact h
    | succ d ih=>
     intro i hd
     have a:=ih i (by omega)
     have:=(hi (i+(d+1)+1) (by omega) (by omega)).2
     rcases this with h | h
     ·omega
     ·rw [show i+(d+1)+1 - 1=i+d+1 by omega] at h
      omega
   intro i j hi1 hj hij
   have:=key (j - i - 1) i (by omega)
   rw [show i+(j - i - 1)+1=j by omega,List.getD_eq_getElem?_getD,List.getElem?_eq_getElem hi1,List.getD_eq_getElem?_getD,List.getElem?_eq_getElem hj] at this
   exact this
  have hs:=qIw l [] List.Pairwise.nil
  refine qLv hs.1 hinc fun y=>?_
  rw [qUF] at *
  rw [hs.2]
  simp
def qVh (t:List UInt8):Prop:=qAk t=true∨t=qQy∨t=tLP∨t=qH2
structure CB (ws:List Wd) (c:Cd):Prop where
 neg:∀ F q,4 * (ws.length - q)+2<=F->AtW ws q (qBX 3 c)->qIQ ws F q=.inr (c,q+(qBX 3 c).length)
 conj:∀ F q,4 * (ws.length - q)+3<=F->AtW ws q (qBX 2 c)->∃ f,4 * (ws.length - (q+(qBX 2 c).length))+1<=f/\qDL ws F q=qOc ws f c (q+(qBX 2 c).length)
 cond:∀ F q,4 * (ws.length - q)+4<=F->AtW ws q (qBX 1 c)->¬ txt ws (q+(qBX 1 c).length)=qOY->∃ f,4 * (ws.length - (q+(qBX 1 c).length))+1<=f/\qDc ws F q=orR ws f c (q+(qBX 1 c).length)
 head:∃ t r,qBL c=t::r/\qVh t
section
variable {ws:List Wd} (hg:GoodW ws)
end
end Go.Proofs.YtmepdfingcmkmaaGreatDoor
namespace Go.Proofs.YtmepdfingcmkmaaGreatDoor
open Go Y
set_option maxRecDepth 100000
set_option maxHeartbeats 4000000
theorem qKe {f:Nat->Cd->Option Nat}:∀ {ar:List Cd} {l k:Nat},ar.foldlM f l=some k->∀ c∈ar,∃ a b,f a c=some b
 | [],_,_,_,c,hc=>by simp at hc
 | x::ar,l,k,h,c,hc=>by
  rw [List.foldlM_cons] at h
  cases hx:f l x with
  | none=>rw [hx] at h;cases h
  | some m=>
   rw [hx] at h
   rcases List.mem_cons.1 hc with rfl | hc
   ·exact⟨l,m,hx⟩
   ·exact qKe (ar:=ar) h c hc
theorem qFi {n rel val:Int} {r:Rf} {st:List Int} (h:qAm n rel val r st=true):n=0/\rel=0/\val=0/\r=rf0/\st=[]:=by
 simp only [qAm,Bool.and_eq_true,decide_eq_true_eq] at h
 exact⟨h.1.1.1.1,h.1.1.1.2,h.1.1.2,h.1.2,h.2⟩
theorem qVr {α:Type} {l:List α} (h:l.length=2):∃ a b,l=[a,b]:=by
 rcases l with _ | ⟨a,_ | ⟨b,_ | ⟨c,l⟩⟩⟩
 ·cases h
 ·cases h
 ·exact⟨a,b,rfl⟩
 ·simp only [List.length_cons] at h;omega
theorem qWo {α:Type} {l:List α} (h:l.length=1):∃ a,l=[a]:=by
 rcases l with _ | ⟨a,_ | ⟨b,l⟩⟩
 ·cases h
 ·exact⟨a,rfl⟩
 ·simp only [List.length_cons] at h;omega
inductive Sh (P:Cd->Prop):Cd->Prop
 | leaf (op n rel val:Int) (r:Rf) (st:List Int) (h7:¬ op=7) (h8:¬ op=8) (h9:¬ op=9) (h:qAT op n rel val r st=true):Sh P (.mk op n rel val r st [])
 | neg (a:Cd) (h:P a):Sh P (.mk 7 0 0 0 rf0 [] [a])
 | conj (a b:Cd) (ha:P a) (hb:P b):Sh P (.mk 8 0 0 0 rf0 [] [a,b])
 | disj (a b:Cd) (ha:P a) (hb:P b):Sh P (.mk 9 0 0 0 rf0 [] [a,b])
theorem qON {d:Nat} {c:Cd} {left k:Nat} (h:qAg (d+1) c left=some k):Sh (fun a=>∃ l k,qAg d a l=some k) c:=by
 obtain⟨op,n,rel,val,r,st,ar⟩:=c
 rw [qAg] at h
 split at h
 ·cases h
 ·split at h
  ·rename_i hh
   have hm:=qKe h
   unfold qAW at hh
   split at hh
   ·rename_i h0
    simp only [Bool.and_eq_true,decide_eq_true_eq] at hh
    have:ar=[]:=List.length_eq_zero_iff.1 hh.2
    subst this
    unfold qAX at h0
    refine .leaf op n rel val r st ?_ ?_ ?_ hh.1
    ·rintro rfl;cases h0
    ·rintro rfl;cases h0
    ·rintro rfl;cases h0
   ·rename_i h0
    simp only [Bool.and_eq_true,decide_eq_true_eq] at hh
    obtain⟨hk,hp⟩:=hh
    obtain⟨rfl,rfl,rfl,rfl,rfl⟩:=qFi hp
    unfold qAX at h0 hk
    by_cases c7:op=7
    ·subst c7
     obtain⟨a,rfl⟩:=qWo hk
     exact .neg a (hm a (by simp))
    ·rw [if_neg c7] at h0 hk
     by_cases c8:op=8
     ·subst c8
      obtain⟨a,b,rfl⟩:=qVr hk
      exact .conj a b (hm a (by simp)) (hm b (by simp))
     ·by_cases c9:op=9
      ·subst c9
       obtain⟨a,b,rfl⟩:=qVr hk
       exact .disj a b (hm a (by simp)) (hm b (by simp))
      ·rw [if_neg (by omega)] at h0
       exact absurd rfl h0
  ·cases h
theorem Sh.mono {P Q:Cd->Prop} {c:Cd} (h:Sh P c) (hpq:∀ a,P a->Q a):Sh Q c:=by
 cases h with
 | leaf op n rel val r st h7 h8 h9 h=>exact .leaf op n rel val r st h7 h8 h9 h
 | neg a h=>exact .neg a (hpq a h)
 | conj a b ha hb=>exact .conj a b (hpq a ha) (hpq b hb)
 | disj a b ha hb=>exact .disj a b (hpq a ha) (hpq b hb)
theorem qFu {op n rel val:Int} {r:Rf} {st:List Int} (h7:¬ op=7) (h8:¬ op=8) (h9:¬ op=9):qBL (.mk op n rel val r st [])=qJN op n rel val r st:=by
 rw [qBL,qVD,if_neg h9,if_neg h8,if_neg h7]
theorem qHU (a:Cd):qBL (.mk 7 0 0 0 rf0 [] [a])=qQy::qBX 3 a:=by
 rw [qBL,qEY,qEY];rfl
theorem qFw (a b:Cd):qBL (.mk 8 0 0 0 rf0 [] [a,b])=qBX 2 a++qOY::qBX 3 b:=by
 rw [qBL,qEY,qEY,qEY];rfl
theorem qFv (a b:Cd):qBL (.mk 9 0 0 0 rf0 [] [a,b])=qBX 1 a++tOr::qBX 2 b:=by
 rw [qBL,qEY,qEY,qEY];rfl
theorem qOg {k:Nat} {c:Cd} (h:¬ lvl c.op<k):qBX k c=qBL c:=if_neg h
section
variable {ws:List Wd} (hg:GoodW ws)
include hg
end
end Go.Proofs.YtmepdfingcmkmaaGreatDoor
namespace Go.Proofs.YtmepdfingcmkmaaGreatDoor
open Go Y
set_option maxRecDepth 100000
set_option maxHeartbeats 4000000
theorem qRc {c:Cd} (h:qDr c=true):c=cd0:=by
 obtain⟨op,n,rel,val,r,st,ar⟩:=c
 simp only [qDr,Bool.and_eq_true,decide_eq_true_eq] at h
 obtain⟨⟨rfl,h2⟩,h3⟩:=h
 obtain⟨rfl,rfl,rfl,rfl,rfl⟩:=qFi h2
 have:ar=[]:=List.length_eq_zero_iff.1 h3
 subst this
 rfl
theorem qIH {l:List Int} (h:qCD l=true):l ≠ []/\l.length<=8/\∀ n∈l,qHi n=true:=by
 simp only [qCD,Bool.and_eq_true,decide_eq_true_eq,List.all_eq_true] at h
 exact⟨fun e=>by rw [e] at h;exact absurd h.1.1 (by decide),h.1.2,h.2⟩
section
variable {ws:List Wd} (hg:GoodW ws)
include hg
end
end Go.Proofs.YtmepdfingcmkmaaGreatDoor
namespace Go.Proofs.YtmepdfingcmkmaaGreatDoor
open Go Y
set_option maxRecDepth 100000
set_option maxHeartbeats 4000000
structure GapOK (g:List UInt8):Prop where
 sep:∃ c r,g=c::r/\qVG c
 skip:∀ r,qVy r=true->qVd g r
def qHd (t:List UInt8):Prop:=∃ k,qAw k t=true
theorem qTk (d:De):declT d ≠ []:=by rw [declT];simp
theorem qNM:∀ ds:List De,(ds.flatMap declT).length=qVW ds
 | []=>rfl
 | d::ds=>by rw [List.flatMap_cons,List.length_append,qNM ds];rfl
def qFT (x:qCl):Prop:=∀ t∈x,qHd t
theorem qAu:qFT []:=fun t h=>by simp at h
theorem qAM {t:List UInt8} {x:qCl} (h:qHd t) (hx:qFT x):qFT (t::x):=fun u hu=>by
 rcases List.mem_cons.1 hu with rfl | hu
 ·exact h
 ·exact hx u hu
theorem qAz {x y:qCl} (hx:qFT x) (hy:qFT y):qFT (x++y):=fun u hu=>by
 rcases List.mem_append.1 hu with hu | hu
 ·exact hx u hu
 ·exact hy u hu
theorem qCr {t:List UInt8} (h:qAk t=true):qHd t:=⟨1,h⟩
theorem qC2 {n:Int} (h:qB0 n=true):qHd (qFV n):=⟨3,(qRy h).1⟩
theorem qAl:∀ t∈keysL++marksL,qHd t:=by
 intro t ht
 rcases List.mem_append.1 ht with h | h
 ·exact⟨2,(by decide:∀ t∈keysL,qAw 2 t=true) t h⟩
 ·exact⟨4,(by decide:∀ t∈marksL,qAw 4 t=true) t h⟩
theorem qTb {x:qCl} (h:∀ t∈x,t∈keysL++marksL):qFT x:=fun t ht=>qAl t (h t ht)
theorem qDS {r:Rf} (h:qBg r=true):qFT (qQz r)/\(qQz r).length<=6:=by
 obtain⟨nm,m,pl,n⟩:=r
 rw [qBg,Bool.and_eq_true] at h
 obtain⟨hn,h⟩:=h
 simp only [] at h hn
 have k1:qHd tLB:=qAl _ (by decide)
 have k2:qHd tRB:=qAl _ (by decide)
 have k3:qHd qMY:=qAl _ (by decide)
 have k4:qHd qNp:=qAl _ (by decide)
 suffices hs:qFT (qNo ⟨nm,m,pl,n⟩)/\(qNo ⟨nm,m,pl,n⟩).length<=5 by
  exact⟨qAM (qCr hn) hs.1,by show _+1<=6;omega⟩
 unfold qNo
 simp only []
 split
 ·exact⟨qAM k1 (qAM k3 (qAM k2 qAu)),by simp⟩
 ·rename_i h3
  split
  ·rename_i h2
   rw [if_neg (by omega),if_neg (by omega),if_pos h2,Bool.and_eq_true] at h
   exact⟨qAM k1 (qAM (qC2 h.2) (qAM k2 qAu)),by simp⟩
  ·split
   ·rename_i h1
    rw [if_neg (by omega),if_pos h1,Bool.and_eq_true] at h
    split
    ·exact⟨qAM k1 (qAM (qCr h.1) (qAM k4 (qAM (qC2 h.2) (qAM k2 qAu)))),by simp⟩
    ·exact⟨qAM k1 (qAM (qCr h.1) (qAM k2 qAu)),by simp⟩
   ·exact⟨qAu,by simp⟩
theorem qHO {α:Type} {f:α->qCl} {b:Nat}:∀ {l:List α},(∀ a∈l,qFT (f a)/\(f a).length<=b)->qFT (l.flatMap f)/\(l.flatMap f).length<=b * l.length
 | [],_=>⟨qAu,by simp⟩
 | a::l,h=>by
  have h1:=h a (List.mem_cons_self ..)
  have h2:=qHO (f:=f) (b:=b) (l:=l) fun x hx=>h x (List.mem_cons_of_mem _ hx)
  rw [List.flatMap_cons]
  refine⟨qAz h1.1 h2.1,?_⟩
  rw [List.length_append,List.length_cons,Nat.mul_succ]
  omega
theorem qIx {α:Type} {f:α->qCl} {b:Nat} {l:List α} (h:∀ a∈l,qFT (f a)/\(f a).length<=b):qFT (qS3 f l)/\(qS3 f l).length<=(b+1) * l.length:=by
 cases l with
 | nil=>exact⟨qAu,by simp [qS3]⟩
 | cons a l=>
  have h1:=h a (List.mem_cons_self ..)
  have h2:=qHO (f:=fun x=>qEU::f x) (b:=b+1) (l:=l) fun x hx=>⟨qAM (qAl _ (by decide)) (h x (List.mem_cons_of_mem _ hx)).1,by have:=(h x (List.mem_cons_of_mem _ hx)).2;simp only [List.length_cons];omega⟩
  rw [qS3]
  refine⟨qAz h1.1 h2.1,?_⟩
  rw [List.length_append,List.length_cons,Nat.mul_succ]
  omega
theorem qPO (k:Int):qHd (qUG k):=by
 refine qAl _ ?_
 unfold qUG
 split
 ·decide
 ·split
  ·decide
  ·split <;> decide
theorem qKV {op n rel val:Int} {r:Rf} {st:List Int} (hb:qAT op n rel val r st=true):qFT (qJN op n rel val r st)/\(qJN op n rel val r st).length<=25:=by
 unfold qAT at hb
 unfold qJN
 by_cases c6:op=6
 ·rw [if_neg (by omega),if_neg (by omega),if_pos c6] at hb
  simp only [Bool.and_eq_true,decide_eq_true_eq] at hb
  obtain⟨⟨⟨⟨⟨⟨b1,b2⟩,b3⟩,b4⟩,b5⟩,b6⟩,b7⟩:=hb
  rw [if_pos c6]
  have hr:=qDS b1
  refine⟨qAz (qTb (by decide)) (qAz hr.1 (qAM (qAl _ (by decide)) (qAM (qC2 b4) (qAM (qAl _ (by decide)) (qAM (qPO rel) (qAM (qC2 b3) qAu)))))),?_⟩
  simp only [List.length_append,List.length_cons,List.length_nil];omega
 ·rw [if_neg c6]
  by_cases c5:op=5
  ·rw [if_neg (by omega),if_pos c5] at hb
   simp only [Bool.and_eq_true,decide_eq_true_eq] at hb
   obtain⟨⟨⟨⟨b1,b2⟩,b3⟩,b4⟩,b5⟩:=hb
   rw [if_pos c5]
   have hr:=qDS b1
   have hset:=qH5 b5
   have hl8:st.length<=8:=by
    simp only [qGp,Bool.and_eq_true,decide_eq_true_eq] at b5
    exact b5.1.2
   have hs:=qIx (f:=fun n=>[qFV n]) (b:=1) (l:=st) fun a ha=>⟨qAM (qC2 (hset.2.1 a ha)) qAu,by simp⟩
   refine⟨qAz hr.1 (qAz (qTb (by decide)) (qAz hs.1 (qTb (by decide)))),?_⟩
   simp only [List.length_append,List.length_cons,List.length_nil];omega
  ·rw [if_neg c5]
   by_cases c1:op=1∨op=2∨op=3∨op=4
   ·rw [if_pos c1] at hb
    simp only [Bool.and_eq_true,decide_eq_true_eq] at hb
    have hr:=qDS hb.1.1.1.1
    refine⟨qAz hr.1 (qAM (qPO op) (qAM (qC2 hb.1.1.1.2) qAu)),?_⟩
    simp only [List.length_append,List.length_cons,List.length_nil];omega
   ·rw [if_neg c1,if_neg c5,if_neg c6] at hb
    cases hb
inductive ShN (P:Nat->Cd->Nat->Prop):Nat->Cd->Nat->Prop
 | leaf (op n rel val:Int) (r:Rf) (st:List Int) (l:Nat) (h7:¬ op=7) (h8:¬ op=8) (h9:¬ op=9) (h:qAT op n rel val r st=true):ShN P (l+1) (.mk op n rel val r st []) l
 | neg (a:Cd) (l k:Nat) (h:P l a k):ShN P (l+1) (.mk 7 0 0 0 rf0 [] [a]) k
 | conj (a b:Cd) (l m k:Nat) (ha:P l a m) (hb:P m b k):ShN P (l+1) (.mk 8 0 0 0 rf0 [] [a,b]) k
 | disj (a b:Cd) (l m k:Nat) (ha:P l a m) (hb:P m b k):ShN P (l+1) (.mk 9 0 0 0 rf0 [] [a,b]) k
theorem qL8 {d:Nat} {c:Cd} {left k:Nat} (h:qAg (d+1) c left=some k):ShN (fun l a k=>qAg d a l=some k) left c k:=by
 obtain⟨op,n,rel,val,r,st,ar⟩:=c
 rw [qAg] at h
 split at h
 ·cases h
 ·rename_i hl0
  obtain⟨l,rfl⟩:∃ l,left=l+1:=⟨left - 1,by omega⟩
  rw [Nat.add_sub_cancel] at h
  split at h
  ·rename_i hh
   unfold qAW at hh
   split at hh
   ·rename_i h0
    simp only [Bool.and_eq_true,decide_eq_true_eq] at hh
    have:ar=[]:=List.length_eq_zero_iff.1 hh.2
    subst this
    unfold qAX at h0
    injection h with h
    have h:l=k:=h
    subst h
    refine .leaf op n rel val r st l ?_ ?_ ?_ hh.1
    ·rintro rfl;cases h0
    ·rintro rfl;cases h0
    ·rintro rfl;cases h0
   ·rename_i h0
    simp only [Bool.and_eq_true,decide_eq_true_eq] at hh
    obtain⟨hk,hp⟩:=hh
    obtain⟨rfl,rfl,rfl,rfl,rfl⟩:=qFi hp
    have two:∀ {a b:Cd},[a,b].foldlM (fun l c=>qAg d c l) l=some k->∃ m,qAg d a l=some m/\qAg d b m=some k:=fun {a b} h=>by
     rw [List.foldlM_cons] at h
     cases h1:qAg d a l with
     | none=>rw [h1] at h;cases h
     | some m=>
      rw [h1] at h
      have h:[b].foldlM (fun l c=>qAg d c l) m=some k:=h
      rw [List.foldlM_cons] at h
      cases h2:qAg d b m with
      | none=>rw [h2] at h;cases h
      | some m2=>
       rw [h2] at h
       exact⟨m,rfl,by rw [h2];exact h⟩
    unfold qAX at h0 hk
    by_cases c7:op=7
    ·subst c7
     obtain⟨a,rfl⟩:=qWo hk
     rw [List.foldlM_cons] at h
     cases h1:qAg d a l with
     | none=>rw [h1] at h;cases h
     | some m=>
      rw [h1] at h
      exact .neg a l k (by rw [h1];exact h)
    ·rw [if_neg c7] at h0 hk
     by_cases c8:op=8
     ·subst c8
      obtain⟨a,b,rfl⟩:=qVr hk
      obtain⟨m,h1,h2⟩:=two h
      exact .conj a b l m k h1 h2
     ·by_cases c9:op=9
      ·subst c9
       obtain⟨a,b,rfl⟩:=qVr hk
       obtain⟨m,h1,h2⟩:=two h
       exact .disj a b l m k h1 h2
      ·rw [if_neg (by omega)] at h0
       exact absurd rfl h0
  ·cases h
theorem qCb {k:Nat} {c:Cd} (h:qFT (qBL c)):qFT (qBX k c)/\(qBX k c).length<=(qBL c).length+2:=by
 by_cases hl:lvl c.op<k
 ·rw [qBX,inT,if_pos hl]
  exact⟨qAM (qAl _ (by decide)) (qAz h (qTb (by decide))),by simp⟩
 ·rw [qOg hl]
  exact⟨h,by omega⟩
theorem qDM:∀ (d:Nat) (c:Cd) (left k:Nat),qAg d c left=some k->qFT (qBL c)/\(qBL c).length+2+28 * k<=28 * left
 | 0,_,_,_,h=>by cases h
 | d+1,c,left,k,h=>by
  cases qL8 h with
  | leaf op n rel val r st l h7 h8 h9 hb=>
   rw [qFu h7 h8 h9]
   have:=qKV hb
   exact⟨this.1,by omega⟩
  | neg a l k ha=>
   have ia:=qDM d a l k ha
   have wa:=qCb (k:=3) ia.1
   rw [qHU]
   exact⟨qAM (qAl _ (by decide)) wa.1,by simp only [List.length_cons];omega⟩
  | conj a b l m k ha hb=>
   have ia:=qDM d a l m ha
   have ib:=qDM d b m k hb
   have wa:=qCb (k:=2) ia.1
   have wb:=qCb (k:=3) ib.1
   rw [qFw]
   exact⟨qAz wa.1 (qAM (qAl _ (by decide)) wb.1),by simp only [List.length_append,List.length_cons];omega⟩
  | disj a b l m k ha hb=>
   have ia:=qDM d a l m ha
   have ib:=qDM d b m k hb
   have wa:=qCb (k:=1) ia.1
   have wb:=qCb (k:=2) ib.1
   rw [qFv]
   exact⟨qAz wa.1 (qAM (qAl _ (by decide)) wb.1),by simp only [List.length_append,List.length_cons];omega⟩
theorem qRj {n:Int} (h:qHi n=true):qFT (qQ0 n)/\(qQ0 n).length<=2:=by
 simp only [qHi,Bool.and_eq_true,decide_eq_true_eq] at h
 unfold qQ0
 split
 ·exact⟨qAM (qAl _ (by decide)) (qAM (qC2 (by simp only [qB0,Bool.and_eq_true,decide_eq_true_eq];omega)) qAu),by simp⟩
 ·exact⟨qAM (qC2 (by simp only [qB0,Bool.and_eq_true,decide_eq_true_eq];omega)) qAu,by simp⟩
theorem qKJ {l:List Int} (h:qCD l=true):qFT (qKK l)/\(qKK l).length<=16:=by
 obtain⟨h1,h2,h3⟩:=qIH h
 have:=qHO (f:=qQ0) (b:=2) (l:=l) fun a ha=>qRj (h3 a ha)
 exact⟨this.1,by have h4:=this.2;unfold qKK;omega⟩
theorem qIj:∀ {l:List Cs},qBd l=true->qFT (qDf l)/\(qDf l).length<=858 * l.length
 | [],_=>⟨qAu,by simp [qDf]⟩
 | [c],h=>by
  simp only [qBd,Bool.and_eq_true] at h
  have hn:=qKJ h.1
  rw [qDf]
  exact⟨qAM (qAl _ (by decide)) (qAM (qAl _ (by decide)) hn.1),by simp only [List.length_cons,List.length_nil];omega⟩
 | c::d::r,h=>by
  simp only [qBd,Bool.and_eq_true] at h
  obtain⟨⟨hn,hc⟩,hr⟩:=h
  have hn:=qKJ hn
  obtain⟨k,hk⟩:=Option.isSome_iff_exists.1 hc
  have hc:=qDM 8 c.cond 30 k hk
  have ih:=qIj (l:=d::r) hr
  rw [qDf]
  refine⟨qAz hc.1 (qAM (qAl _ (by decide)) (qAz hn.1 (qAM (qAl _ (by decide)) ih.1))),?_⟩
  have:=ih.2
  simp only [List.length_append,List.length_cons] at this ⊢
  omega
theorem qJ2 {l:List Cs} (h:qBH l=true):qFT (qI1 l)/\(qI1 l).length<=10300:=by
 simp only [qBH,Bool.and_eq_true,decide_eq_true_eq] at h
 obtain⟨⟨h1,h2⟩,h3⟩:=h
 have:=qIj h3
 refine⟨qAM (qAl _ (by decide)) (qAz this.1 (qTb (by decide))),?_⟩
 rw [qI1]
 simp only [List.length_append,List.length_cons,List.length_nil]
 have h4:=this.2
 omega
theorem qGy {key:List UInt8} {l:List Rf} (hk:key∈keysL++marksL) (h:∀ r∈l,qBg r=true) (hl:l.length<=8):qFT (qGz key l)/\(qGz key l).length<=60:=by
 unfold qGz
 split
 ·exact⟨qAu,by simp⟩
 ·have:=qIx (f:=qQz) (b:=6) (l:=l) fun a ha=>qDS (h a ha)
  exact⟨qAM (qAl _ hk) this.1,by have h2:=this.2;simp only [List.length_cons];omega⟩
theorem qQU {d:De} (hv:qBi d=true):qFT (declT d)/\(declT d).length<=10400:=by
 obtain⟨k,n,nm,pl,rs,cs⟩:=d
 simp only [qBi,Bool.and_eq_true,decide_eq_true_eq,List.all_eq_true] at hv
 obtain⟨⟨⟨v1,v2⟩,v3⟩,v4⟩:=hv
 suffices hs:qFT (qRn ⟨k,n,nm,pl,rs,cs⟩)/\(qRn ⟨k,n,nm,pl,rs,cs⟩).length<=10399 by
  exact⟨qAz hs.1 (qTb (by decide)),by rw [declT,List.length_append];simp only [List.length_cons,List.length_nil];omega⟩
 unfold qAj at v4
 unfold qRn
 simp only [] at v4 ⊢
 have hd:=qC2 v1
 by_cases c1:k=1
 ·rw [if_pos c1]
  exact⟨qAM (qAl _ (by decide)) (qAM hd qAu),by simp⟩
 rw [if_neg c1] at v4 ⊢
 by_cases c2:k=2
 ·rw [if_pos c2] at v4 ⊢
  simp only [Bool.and_eq_true,decide_eq_true_eq] at v4
  exact⟨qAM (qAl _ (by decide)) (qAM (qCr v4.1.1.1) (qAM (qAl _ (by decide)) (qAM hd qAu))),by simp⟩
 rw [if_neg c2] at v4 ⊢
 by_cases c3:k=3
 ·rw [if_pos c3] at v4 ⊢
  simp only [Bool.and_eq_true,Bool.or_eq_true,decide_eq_true_eq] at v4
  obtain⟨⟨v0,v5⟩,v6⟩:=v4
  have hr:=qGy (key:=qEQ) (by decide) v3 v2
  have hc:=qJ2 v6
  have hp:qFT (if pl=[] then [] else [tLB,pl,tRB])/\(if pl=[] then [] else [tLB,pl,tRB]:qCl).length<=3:=by
   split
   ·exact⟨qAu,by simp⟩
   ·rename_i h
    exact⟨qAM (qAl _ (by decide)) (qAM (qCr (v5.resolve_left h)) (qTb (by decide))),by simp⟩
  refine⟨qAz (qAM (qAl _ (by decide)) (qAM (qCr v0) qAu)) (qAz hp.1 (qAz (qAM (qAl _ (by decide)) (qAM hd qAu)) (qAz hr.1 (qAM (qAl _ (by decide)) hc.1)))),?_⟩
  have h1:=hp.2
  have h2:=hr.2
  have h3:=hc.2
  simp only [List.length_append,List.length_cons,List.length_nil] at h1 ⊢
  omega
 rw [if_neg c3] at v4 ⊢
 by_cases c4:k=4
 ·rw [if_pos c4] at v4 ⊢
  simp only [Bool.and_eq_true,decide_eq_true_eq] at v4
  have hr:=qGy (key:=qEa) (by decide) v3 v2
  refine⟨qAz (qAM (qAl _ (by decide)) (qAM (qCr v4.1.1) (qAM (qAl _ (by decide)) (qAM hd qAu)))) hr.1,?_⟩
  have h2:=hr.2
  simp only [List.length_append,List.length_cons,List.length_nil];omega
 rw [if_neg c4] at v4 ⊢
 by_cases c5:k=5
 ·rw [if_pos c5] at v4 ⊢
  simp only [Bool.and_eq_true,decide_eq_true_eq] at v4
  have hr:=qGy (key:=qEQ) (by decide) v3 v2
  have hc:=qJ2 v4.2
  refine⟨qAM (qAl _ (by decide)) (qAz hr.1 (qAM (qAl _ (by decide)) hc.1)),?_⟩
  have h2:=hr.2
  have h3:=hc.2
  simp only [List.length_append,List.length_cons];omega
 ·rw [if_neg c5]
  exact⟨qAu,by simp⟩
theorem qLG {t:List UInt8} (h:qHd t):1<=t.length/\t.length<=10:=by
 obtain⟨k,h⟩:=h
 exact qJ6 h
theorem qO6:∀ {x:qCl} (b:Bool),qFT x->(spW b x).length<=11 * x.length
 | [],_,_=>by simp [spW]
 | t::x,b,h=>by
  have h1:=qLG (h t (List.mem_cons_self ..))
  have h2:=qO6 (x:=x) true fun u hu=>h u (List.mem_cons_of_mem _ hu)
  have h3:(if b=true then [32] else []:List UInt8).length<=1:=by cases b <;> simp
  rw [spW,List.length_append,List.length_append,List.length_cons]
  omega
theorem qHx {ds:List De} (h:qAt ds=true):ds.length<=30/\∀ d∈ds,qBi d=true:=by
 simp only [qAt,Bool.and_eq_true,decide_eq_true_eq,List.all_eq_true] at h
 exact h
theorem qCv {n:Int} (h0:0<=n) (h:n<=9999):qB0 n=true:=by
 simp only [qB0,Bool.and_eq_true,decide_eq_true_eq];omega
theorem qM0 {t:List UInt8} (h:qAk t=true):t.length<=10:=(qLG (qCr h)).2
theorem qHG {op n rel val:Int} {r:Rf} {st:List Int} (hb:qAT op n rel val r st=true):qBg r=true/\(op=6->qB0 n=true/\qB0 val=true/\1<=rel/\rel<=4)/\(op=5->qGp st=true)/\(¬ op=5->¬ op=6->qB0 n=true/\1<=op/\op<=4):=by
 unfold qAT at hb
 by_cases c6:op=6
 ·rw [if_neg (by omega),if_neg (by omega),if_pos c6] at hb
  simp only [Bool.and_eq_true,decide_eq_true_eq] at hb
  obtain⟨⟨⟨⟨⟨⟨b1,b2⟩,b3⟩,b4⟩,b5⟩,b6⟩,b7⟩:=hb
  exact⟨b1,fun _=>⟨b3,b4,b5,b6⟩,fun h=>by omega,fun _ h=>absurd c6 h⟩
 ·by_cases c5:op=5
  ·rw [if_neg (by omega),if_pos c5] at hb
   simp only [Bool.and_eq_true,decide_eq_true_eq] at hb
   obtain⟨⟨⟨⟨b1,b2⟩,b3⟩,b4⟩,b5⟩:=hb
   exact⟨b1,fun h=>absurd h c6,fun _=>b5,fun h=>absurd c5 h⟩
  ·by_cases c1:op=1∨op=2∨op=3∨op=4
   ·rw [if_pos c1] at hb
    simp only [Bool.and_eq_true,decide_eq_true_eq] at hb
    exact⟨hb.1.1.1.1,fun h=>absurd h c6,fun h=>absurd h c5,fun _ _=>⟨hb.1.1.1.2,by omega,by omega⟩⟩
   ·rw [if_neg c1,if_neg c5,if_neg c6] at hb
    cases hb
theorem qJ9 {r:Rf} (h:qBg r=true):r.name ≠ []:=by
 rw [qBg,Bool.and_eq_true] at h
 exact(qEI h.1).1
theorem qRi {op n rel val:Int} {r:Rf} {st:List Int} (h:qAT op n rel val r st=true):r.name ≠ []/\(op=5->1<=st.length)/\st.length<=100:=by
 have hf:=qHG h
 refine⟨qJ9 hf.1,fun h5=>?_,?_⟩
 ·have:=hf.2.2.1 h5
  simp only [qGp,Bool.and_eq_true,decide_eq_true_eq] at this
  omega
 ·by_cases h5:op=5
  ·have:=hf.2.2.1 h5
   simp only [qGp,Bool.and_eq_true,decide_eq_true_eq] at this
   omega
  ·unfold qAT at h
   split at h
   ·simp only [Bool.and_eq_true,decide_eq_true_eq] at h
    rw [h.2];decide
   ·split at h
    ·simp only [Bool.and_eq_true,decide_eq_true_eq] at h
     rw [h.2];decide
    ·cases h
theorem qNk:∀ (d:Nat) (c:Cd) (left k:Nat),qAg d c left=some k->qNZ c
 | 0,_,_,_,h=>by rw [qAg] at h;cases h
 | d+1,c,left,k,h=>by
  have hs:=qON h
  cases hs with
  | leaf op n rel val r st h7 h8 h9 hb=>
   rw [qNZ]
   exact⟨⟨fun _=>.inr (qRi hb),fun _=>rfl⟩,by decide,by rw [qFQ];trivial⟩
  | neg a ha=>
   obtain⟨l,k,ha⟩:=ha
   rw [qNZ,qFQ,qFQ]
   exact⟨⟨(fun h=>by cases h),fun h=>absurd h (by decide)⟩,by show 1<=100;decide,qNk d a l k ha,trivial⟩
  | conj a b ha hb=>
   obtain⟨l,k,ha⟩:=ha
   obtain⟨l',k',hb⟩:=hb
   rw [qNZ,qFQ,qFQ,qFQ]
   exact⟨⟨(fun h=>by cases h),fun h=>absurd h (by decide)⟩,by show 2<=100;decide,qNk d a l k ha,qNk d b l' k' hb,trivial⟩
  | disj a b ha hb=>
   obtain⟨l,k,ha⟩:=ha
   obtain⟨l',k',hb⟩:=hb
   rw [qNZ,qFQ,qFQ,qFQ]
   exact⟨⟨(fun h=>by cases h),fun h=>absurd h (by decide)⟩,by show 2<=100;decide,qNk d a l k ha,qNk d b l' k' hb,trivial⟩
theorem qUQ:qNZ cd0:=by
 rw [cd0,qNZ,qFQ]
 exact⟨⟨fun _=>.inl rfl,fun _=>rfl⟩,by decide,trivial⟩
theorem qMt {l:List Int} (h:qCD l=true):(∀ x∈l,-9999<=x/\x<=9999)/\l.length<=100:=by
 obtain⟨_,h2,h3⟩:=qIH h
 refine⟨fun x hx=>?_,by omega⟩
 have:=h3 x hx
 simp only [qHi,Bool.and_eq_true,decide_eq_true_eq] at this
 exact this
structure CaV (c:Cs):Prop where
 ok:CaOK c
 one:∀ l d,(qBC l d c.cond).length<=30
theorem qMx (k a:Int) (nm:List UInt8):(qBb k a nm).length<=1:=by
 unfold qBb
 split <;> simp
mutual
theorem qKq (l:List De) (x:De):∀ (d:Nat) (c:Cd) (left k:Nat),qAg d c left=some k->(qBC l x c).length+k<=left
 | 0,_,_,_,h=>by rw [qAg] at h;cases h
 | d+1, .mk op n rel val r st [],left,k,h=>by
  rw [qAg] at h
  split at h
  ·cases h
  ·split at h
   ·rw [List.foldlM_nil] at h
    injection h with h
    rw [qBC]
    split
    ·simp;omega
    ·have:=qMx (qDQ l x op n val r st) l.length r.name
     omega
   ·cases h
 | d+1, .mk op n rel val r st (a::az),left,k,h=>by
  rw [qAg] at h
  split at h
  ·cases h
  ·split at h
   ·have:=qIi l x d (a::az) (left - 1) k h
    rw [qBM] at this
    rw [qBC];omega
   ·cases h
theorem qIi (l:List De) (x:De):∀ (d:Nat) (az:List Cd) (left k:Nat),az.foldlM (fun l c=>qAg d c l) left=some k->(qBM l x az).length+k<=left
 | d,[],left,k,h=>by
  rw [List.foldlM_nil] at h
  injection h with h
  rw [qBM];simp;omega
 | d,a::az,left,k,h=>by
  rw [List.foldlM_cons] at h
  cases hc:qAg d a left with
  | none=>rw [hc] at h;cases h
  | some m=>
   rw [hc] at h
   have h1:=qKq l x d a left m hc
   have h2:=qIi l x d az m k h
   rw [qBM,List.length_append];omega
end
theorem qKt:∀ {l:List Cs},qBd l=true->∀ c∈l,CaV c
 | [],_,c,hc=>by cases hc
 | [x],h,c,hc=>by
  simp only [qBd,Bool.and_eq_true] at h
  rw [List.mem_singleton.1 hc]
  have hn:=qMt h.1
  have hz:=qRc h.2
  exact⟨⟨by rw [hz];exact qUQ,hn.1,hn.2⟩,fun l d=>by rw [hz,cd0,qBC];simp⟩
 | x::y::r,h,c,hc=>by
  simp only [qBd,Bool.and_eq_true] at h
  obtain⟨⟨h1,h0⟩,h2⟩:=h
  rcases List.mem_cons.1 hc with rfl | hc
  ·have hn:=qMt h1
   obtain⟨k,hk⟩:=Option.isSome_iff_exists.1 h0
   exact⟨⟨qNk 8 c.cond 30 k hk,hn.1,hn.2⟩,fun l d=>by have:=qKq l d 8 c.cond 30 k hk;omega⟩
  ·exact qKt (l:=y::r) h2 c hc
theorem qKu {l:List Cs} (h:qBH l=true):l.length<=12/\∀ c∈l,CaV c:=by
 simp only [qBH,Bool.and_eq_true,decide_eq_true_eq] at h
 exact⟨h.1.2,qKt h.2⟩
structure DcV (d:De):Prop where
 ok:DcOK d
 n:0<=d.n/\d.n<=9999
 refs:d.refs.length<=8
 few:d.cases.length<=12
 cases:∀ c∈d.cases,CaV c
theorem qR0 {d:De} (h:qBi d=true):DcV d:=by
 simp only [qBi,Bool.and_eq_true,decide_eq_true_eq,List.all_eq_true] at h
 obtain⟨⟨⟨h1,h2⟩,h3⟩,h4⟩:=h
 have hn:0<=d.n/\d.n<=9999:=by
  simp only [qB0,Bool.and_eq_true,decide_eq_true_eq] at h1;exact h1
 have hr:∀ r∈d.refs,r.name ≠ []:=fun r hr=>qJ9 (h3 r hr)
 have key:∀ (hk:d.kind=1∨d.kind=2∨d.kind=3∨d.kind=4∨d.kind=5) (hb:d.kind=1∨d.kind=5->d.name=[]) (hm:d.kind=2∨d.kind=3∨d.kind=4->d.name ≠ []) (hp:¬ d.kind=3->d.plate=[]) (hc:d.cases.length<=12/\∀ c∈d.cases,CaV c),DcV d:=fun hk hb hm hp hc=>
  ⟨⟨⟨hk,hb,hm,hp,hr⟩,by omega,by have:=hc.1;omega,fun c hx=>(hc.2 c hx).ok⟩,hn,h2,hc.1,hc.2⟩
 have h0:d.cases.length=0->d.cases.length<=12/\∀ c∈d.cases,CaV c:=fun e=>⟨by omega,fun c hc=>by rw [List.eq_nil_of_length_eq_zero e] at hc;cases hc⟩
 unfold qAj at h4
 split at h4
 ·rename_i k
  simp only [Bool.and_eq_true,decide_eq_true_eq] at h4
  exact key (.inl k) (fun _=>h4.1.1.1) (fun h=>by omega) (fun _=>h4.1.1.2) (h0 h4.2)
 ·split at h4
  ·rename_i k
   simp only [Bool.and_eq_true,decide_eq_true_eq] at h4
   exact key (.inr (.inl k)) (fun h=>by omega) (fun _=>(qEI h4.1.1.1).1) (fun _=>h4.1.1.2) (h0 h4.2)
  ·split at h4
   ·rename_i k
    simp only [Bool.and_eq_true,Bool.or_eq_true,decide_eq_true_eq] at h4
    exact key (.inr (.inr (.inl k))) (fun h=>by omega) (fun _=>(qEI h4.1.1).1) (fun h=>absurd k h) (qKu h4.2)
   ·split at h4
    ·rename_i k
     simp only [Bool.and_eq_true,decide_eq_true_eq] at h4
     exact key (.inr (.inr (.inr (.inl k)))) (fun h=>by omega) (fun _=>(qEI h4.1.1).1) (fun _=>h4.1.2) (h0 h4.2)
    ·split at h4
     ·rename_i k
      simp only [Bool.and_eq_true,decide_eq_true_eq] at h4
      exact key (.inr (.inr (.inr (.inr k)))) (fun _=>h4.1.1.2) (fun h=>by omega) (fun _=>h4.1.2) (qKu h4.2)
     ·cases h4
theorem qC9 {ds:List De} (h:qAt ds=true):ds.length<=30/\∀ d∈ds,DcV d:=by
 obtain⟨h1,h2⟩:=qHx h
 exact⟨h1,fun d hd=>qR0 (h2 d hd)⟩
theorem qDB (l:List De) (d:De):∀ (rs done:List Rf),(qAQ l d done rs).length<=2 * rs.length
 | [],_=>by rw [qAQ];simp
 | r::rs,done=>by
  have h1:=qDB l d rs (done++[r])
  have h2:=qMx (qF9 l d r) l.length r.name
  rw [qAQ,List.length_append,List.length_append,List.length_cons]
  have h3:(if r∈done then [(⟨2,l.length,r.name⟩:Iss)] else []).length<=1:=by split <;> simp
  omega
theorem qCZ (l:List De) (d:De) (g:Int):∀ cs:List Cs,(∀ c∈cs,CaV c)->(qAo l d g cs).length<=31 * cs.length
 | [],_=>by show 0<=_;omega
 | c::cs,h=>by
  have h1:=qCZ l d g cs fun x hx=>h x (List.mem_cons_of_mem _ hx)
  have h2:=(h c (List.mem_cons_self ..)).one l d
  have h3:(if qI2 d c.nums g=true then [] else [(⟨9,l.length,[]⟩:Iss)]).length<=1:=by split <;> simp
  rw [qBp,List.length_append,List.length_append,List.length_cons]
  omega
theorem qMr (l:List De) {d:De} (g:Int) (h:DcV d):(qCW l d g).length<=400:=by
 have h1:=qDB l d d.refs []
 have h2:=qCZ l d g d.cases h.cases
 have h3:(qA7 l d).length<=1:=by unfold qA7;split <;> simp
 have h4:(qAd l d).length<=1:=by unfold qAd;split <;> simp
 have h5:(qB2 l d).length<=1:=by unfold qB2;repeat' (first | (split;rotate_left) | simp)
 have r1:=h.refs
 have r2:=h.few
 unfold qCW
 repeat' split
 all_goals simp only [List.length_append,List.length_cons,List.length_nil]
 all_goals omega
theorem qFJ (g:Int):∀ (r l:List De),(∀ d∈r,DcV d)->(qBm g l r).length<=400 * r.length
 | [],_,_=>by rw [qBm];simp
 | d::r,l,h=>by
  have h1:=qFJ g r (l++[d]) fun x hx=>h x (List.mem_cons_of_mem _ hx)
  have h2:=qMr l g (h d (List.mem_cons_self ..))
  rw [qBm,List.length_append,List.length_cons];omega
theorem qHJ (ds:List De):(qCk ds).length<=1:=by
 unfold qCk
 split
 ·simp
 ·split <;> simp
theorem qQh {ds:List De} (h:qAt ds=true):(qKx ds).length<=12001:=by
 obtain⟨h1,h2⟩:=qC9 h
 have:=qFJ (qAb ds) ds [] h2
 have:=qHJ ds
 rw [qKx,List.length_append];omega
set_option maxHeartbeats 40000000
theorem qKF {W N m:Nat} {q:Int} (hW:W<=4 ^ N) (hN:N+m<=8) (hq:1<=m->2<=q/\q<=4) (j:Nat) (hj:j<=m):0<=(W:Int) * q ^ j/\(W:Int) * q ^ j<=65536:=by
 have h8:4 ^ N * 4 ^ j<=65536:=by
  rw [<- Nat.pow_add]
  exact Nat.le_trans (Nat.pow_le_pow_right (by decide) (show N+j<=8 by omega)) (by decide)
 by_cases h0:j=0
 ·subst h0
  rw [Int.pow_zero,Int.mul_one]
  rw [Nat.pow_zero,Nat.mul_one] at h8
  omega
 ·obtain⟨c,rfl⟩:∃ c:Nat,q=c:=⟨q.toNat,by have:=hq (by omega);omega⟩
  have hc:c<=4:=by have:=hq (by omega);omega
  have h1:W * c ^ j<=65536:=Nat.le_trans (Nat.mul_le_mul hW (Nat.pow_le_pow_left hc j)) h8
  have e:(W:Int) * (c:Int) ^ j=((W * c ^ j:Nat):Int):=by rw [Int.natCast_mul,Int.natCast_pow]
  rw [e];omega
theorem qJo:∀ (r l:List De),(∀ d∈r,d.kind=3∨d.kind=4->d.n<=4)->qAZ l r<=4 ^ qAP l r
 | [],l,_=>Nat.le_refl _
 | d::r,l,h=>by
  rw [qAZ,qAP,Nat.pow_add]
  refine Nat.mul_le_mul ?_ (qJo r _ fun x hx=>h x (List.mem_cons_of_mem _ hx))
  by_cases hk:d.kind=3∨d.kind=4
  ·have:=h d (List.mem_cons_self ..) hk
   exact Nat.pow_le_pow_left (by omega) _
  ·have:qSS l d=0:=by
    unfold qSS
    rw [if_neg (by omega),if_neg (by omega)]
   rw [this];exact Nat.le_refl _
theorem qIg {ds:List De} {k:Nat} (hk:k<ds.length):qAP [] (ds.take (k+1))=qAP [] (ds.take k)+qSS (ds.take k) (ds.getD k de0)/\qAZ [] (ds.take (k+1))=qAZ [] (ds.take k) * (ds.getD k de0).n.toNat ^ qSS (ds.take k) (ds.getD k de0)/\qAs (ds.take (k+1))=qAs (ds.take k)+(if (ds.getD k de0).kind=5 then 1 else 0):=by
 rw [qAE de0 hk]
 have h:=qFl (ds.take k) [] [ds.getD k de0]
 refine⟨by rw [h.1];rfl,by rw [h.2];show _ * (_ * 1)=_;rw [Nat.mul_one];rfl,?_⟩
 rw [qAs,qAs,List.filter_append,List.length_append,List.filter_cons]
 by_cases h5:(ds.getD k de0).kind=5
 ·rw [if_pos h5,if_pos (by rw [decide_eq_true h5])];rfl
 ·rw [if_neg h5,if_neg (by rw [decide_eq_false h5];simp)];rfl
theorem qDE {ds:List De} (k:Nat):qAP [] (ds.take k)<=qAP [] ds:=by
 have h:=(qFl (ds.take k) [] (ds.drop k)).1
 rw [List.take_append_drop] at h
 omega
theorem qO8 {ds:List De} {g:Int} (h:qBm g [] ds=[]) {k:Nat} (hk:k<ds.length) (h3:(ds.getD k de0).kind=3) (hp:¬ (ds.getD k de0).plate=[]):qBT ds (ds.getD k de0).plate=qBT (ds.take k) (ds.getD k de0).plate:=by
 have h1:=qCS ds [] h k hk
 rw [List.nil_append] at h1
 obtain⟨t,ht,_⟩:=qFj h1 h3 hp
 have:=qNK (m:=ds.drop k) ht
 rw [List.take_append_drop] at this
 rw [qBT,qBT,this,ht]
theorem qWP {ds:List De} (b:Nat) (l:List Iss) (hv:ds.length<=30) {g:Int} (hno:qBm g [] ds=[]):HoldsG cx 54 [.ptr 0 0 0] (ckS ds b (qCE ds) l) (ckQ (ckS ds b (qCE ds) l) (.bool (qHZ ds))):=by
 have hcs:CkS ds ds.length (qCE ds):=⟨fun nm hn=>by rw [List.take_length];exact qL2 ds hn,hv,Nat.le_refl _⟩
 have hm:(ds.map De.cells).length=ds.length:=List.length_map ..
 refine qAC Tryz.func54 rfl rfl rfl ?_
 refine⟨Nat,fun k=>[(0, .ptr 0 0 0),(3, .p (i64 (qAP [] (ds.take k):Nat))),(4, .p (i64 (qAs (ds.take k):Nat))),(5, .p (i64 (qAZ [] (ds.take k):Nat))),(13, .p (des ds)),(14, .p (i64 ds.length)),(15, .p (i64 k))],fun _=>ckS ds b (qCE ds) l,fun k=>k<=ds.length/\qAP [] (ds.take k)<=8,fun k=>ds.length - k,?_,?_⟩
 ·exact⟨0,⟨Nat.zero_le _,by show 0<=8;decide⟩,qAA [] [] [] rfl ⟨⟨rfl,rfl⟩,rfl,rfl,rfl,rfl,congrArg (fun n:Nat=>i64 n) hm.symm,rfl,trivial⟩ (sk) rfl⟩
 rintro k ⟨k1,k2⟩
 refine QAD (fun m1=>?_) (fun m1=>?_)
 rotate_left
 ·have m1:¬ (k:Int)<(ds.length:Nat):=m1
  obtain⟨B,hB⟩:∃ B,B=qHZ ds:=⟨_,rfl⟩
  rw [<- hB]
  rw [qAc (by omega)] at k2
  have et:ds.take k=ds:=qAc (by omega)
  rw [qHZ,decide_eq_false (show ¬ 8<qAP [] ds by omega),Bool.false_or] at hB
  refine QAD (fun e0=>?_) (fun e0=>?_)
  ·have e0:((qAP [] (ds.take k):Nat):Int)=0:=e0
   rw [et] at e0
   rw [decide_eq_true (show qAP [] ds<1 by omega),Bool.true_or] at hB
   exact⟨[],[],[], .returned (.p (.bool true)),ckS ds b (qCE ds) l,rfl,sk,sk,by rw [hB],rfl⟩
  have e0:¬ ((qAP [] (ds.take k):Nat):Int)=0:=e0
  rw [et] at e0
  rw [decide_eq_false (show ¬ qAP [] ds<1 by omega),Bool.false_or] at hB
  refine QAD (fun e1=>?_) (fun e1=>?_)
  ·have e1:(4:Int)<((qAs (ds.take k):Nat):Int):=e1
   rw [et] at e1
   rw [decide_eq_true (show 4<qAs ds by omega),Bool.true_or] at hB
   exact⟨[],[],[], .returned (.p (.bool true)),ckS ds b (qCE ds) l,rfl,sk,sk,by rw [hB],rfl⟩
  have e1:¬ (4:Int)<((qAs (ds.take k):Nat):Int):=e1
  rw [et] at e1
  rw [decide_eq_false (show ¬ 4<qAs ds by omega),Bool.false_or] at hB
  refine QAD (fun e2=>?_) (fun e2=>?_)
  ·have e2:(1024:Int)<((qAZ [] (ds.take k):Nat):Int):=e2
   rw [et] at e2
   rw [decide_eq_true (show 1024<qAZ [] ds by omega)] at hB
   exact⟨[],[],[], .returned (.p (.bool true)),ckS ds b (qCE ds) l,rfl,sk,sk,by rw [hB],rfl⟩
  ·have e2:¬ (1024:Int)<((qAZ [] (ds.take k):Nat):Int):=e2
   rw [et] at e2
   rw [decide_eq_false (show ¬ 1024<qAZ [] ds by omega)] at hB
   exact⟨[],[],[], .returned (.p (.bool false)),ckS ds b (qCE ds) l,rfl,sk,sk,by rw [hB],rfl⟩
 have m1:(k:Int)<(ds.length:Nat):=m1
 have hk:k<ds.length:=by omega
 have hcell:=qDm hk
 have h1:=qCS ds [] hno k hk
 rw [List.nil_append] at h1
 have hcard:=fun h=>qG6 (d:=ds.getD k de0) h1 h
 obtain⟨sN,sW,sG⟩:=qIg hk
 have hWl:qAZ [] (ds.take k)<=4 ^ qAP [] (ds.take k):=qJo _ _ fun x hx hk3=>by
  obtain⟨j,hj,e⟩:=qSR de0 (List.mem_of_mem_take hx)
  have h2:=qCS ds [] hno j hj
  rw [e] at h2
  exact(qG6 h2 hk3).2
 have hfull:=fun h3 hp=>qO8 hno hk h3 hp
 have hspos:=fun h3 hp=>qMc hno hk h3 hp
 generalize ds.getD k de0=d at hcell hcard sN sW sG hfull hspos
 obtain⟨dk,dn,dnm,dpl,drs,dcs⟩:=d
 simp only [qSS] at sN sW sG hcard hfull hspos
 refine⟨_,⟨by omega,(De.mk dk dn dnm dpl drs dcs).cells,hcell,rfl⟩,?_⟩
 have w2:∀ m:Nat,(1<=m->2<=dn/\dn<=4)->((qAZ [] (ds.take k):Nat):Int) * dn ^ m=((qAZ [] (ds.take k) * dn.toNat ^ m:Nat):Int):=fun m hq=>by
  rw [Int.natCast_mul,Int.natCast_pow]
  by_cases h0:m=0
  ·subst h0;rw [Int.pow_zero,Int.pow_zero]
  ·have:=hq (by omega)
   rw [show((dn.toNat:Nat):Int)=dn by omega]
 refine QAD (fun q5=>?_) (fun q5=>?_)
 ·have q5:dk=5:=q5
  rw [if_neg (by omega),if_neg (by omega)] at sN sW
  rw [if_pos q5] at sG
  obtain⟨G,hGe⟩:∃ G,G=qAs (ds.take k)+1:=⟨_,rfl⟩
  have hgl:qAs (ds.take k)<=30:=by rw [qAs];have:=List.length_filter_le (fun d:De=>decide (d.kind=5)) (ds.take k);rw [List.length_take] at this;omega
  have hN:=sN
  have hG:qAs (ds.take (k+1))=G:=by rw [sG,hGe]
  have hq:1<=0->2<=dn/\dn<=4:=fun h=>absurd h (by decide)
  have hW2:=(w2 0 hq).trans (congrArg (fun z:Nat=>(z:Int)) sW.symm)
  refine⟨((G:Nat):Int),by rw [hGe,Int.natCast_add];exact w6z,?_⟩
  refine⟨((qAP [] (ds.take k)+0:Nat):Int),by rw [Int.natCast_add];exact w6z,?_⟩
  refine QAD (fun g8=>?_) (fun g8=>?_)
  ·have g8:(8:Int)<((qAP [] (ds.take k)+0:Nat):Int):=g8
   have hm:=qDE (ds:=ds) (k+1)
   exact⟨[],[],[], .returned (.p (.bool true)),ckS ds b (qCE ds) l,rfl,sk,sk,by rw [show qHZ ds=true by unfold qHZ;rw [decide_eq_true (show 8<qAP [] ds by omega)];simp],rfl⟩
  have g8:¬ (8:Int)<((qAP [] (ds.take k)+0:Nat):Int):=g8
  have hbd:=qKF (q:=dn) hWl (show qAP [] (ds.take k)+0<=8 by omega) hq
  refine⟨Nat,fun j=>[(0, .ptr 0 0 0),(3, .p (i64 (qAP [] (ds.take k)+0:Nat))),(4, .p (i64 (G:Nat))),(5, .p (i64 ((qAZ [] (ds.take k):Nat) * dn ^ j))),(7, .ptr 3 0 0),(13, .p (des ds)),(14, .p (i64 ds.length)),(15, .p (i64 k)),(41, .p (i64 (0:Nat))),(42, .p (i64 j))],fun _=>⟨4,[(3,dcO ⟨dk,dn,dnm,dpl,drs,dcs⟩),(2,isO l),(1,fmO (qCE ds)),(0,ckO ds (b:Nat) 2 l.length)]⟩,fun j=>j<=0,fun j=>0 - j,?_,?_⟩
  ·exact⟨0,Nat.zero_le _,qAA [] [] [] rfl ⟨⟨rfl,rfl⟩,rfl,rfl,congrArg (fun z:Int=>i64 z) (by rw [Int.pow_zero,Int.mul_one]),⟨rfl,rfl⟩,rfl,rfl,rfl,rfl,rfl,trivial⟩ (sk) rfl⟩
  intro j hj
  refine QAD (fun j1=>?_) (fun j1=>?_)
  ·have j1:(j:Int)<(0:Nat):=j1
   have hb1:=hbd (j+1) (by omega)
   refine⟨(qAZ [] (ds.take k):Nat) * dn ^ (j+1),by rw [Int.pow_succ,<- Int.mul_assoc] at hb1 ⊢;exact w6z,?_⟩
   refine⟨_,w6z,?_⟩
   exact⟨j+1,by omega,qAA [] [] [] rfl (sk) (sk) rfl,by show 0 - (j+1)<0 - j;omega⟩
  have j1:¬ (j:Int)<(0:Nat):=j1
  have hjm:j=0:=by omega
  subst hjm
  refine⟨_,w6z,?_⟩
  exact⟨k+1,⟨by omega,by rw [hN];omega⟩,qAA [] [] [] rfl ⟨⟨rfl,rfl⟩,congrArg (fun z:Nat=>i64 z) hN,congrArg (fun z:Nat=>i64 z) hG,congrArg (fun z:Int=>i64 z) hW2.symm,rfl,rfl,rfl,trivial⟩ (sk) rfl,by show ds.length - (k+1)<ds.length - k;omega⟩
 have q5:¬ dk=5:=q5
 have hG:qAs (ds.take (k+1))=qAs (ds.take k):=by rw [sG,if_neg q5];rfl
 refine QAD (fun q4=>?_) (fun q4=>?_)
 ·have q4:dk=4:=q4
  rw [if_neg (by omega),if_pos q4] at sN sW
  have hN:=sN
  have hq:1<=1->2<=dn/\dn<=4:=fun _=>hcard (.inr q4)
  have hW2:=(w2 1 hq).trans (congrArg (fun z:Nat=>(z:Int)) sW.symm)
  refine⟨((qAP [] (ds.take k)+1:Nat):Int),by rw [Int.natCast_add];exact w6z,?_⟩
  refine QAD (fun g8=>?_) (fun g8=>?_)
  ·have g8:(8:Int)<((qAP [] (ds.take k)+1:Nat):Int):=g8
   have hm:=qDE (ds:=ds) (k+1)
   exact⟨[],[],[], .returned (.p (.bool true)),ckS ds b (qCE ds) l,rfl,sk,sk,by rw [show qHZ ds=true by unfold qHZ;rw [decide_eq_true (show 8<qAP [] ds by omega)];simp],rfl⟩
  have g8:¬ (8:Int)<((qAP [] (ds.take k)+1:Nat):Int):=g8
  have hbd:=qKF (q:=dn) hWl (show qAP [] (ds.take k)+1<=8 by omega) hq
  refine⟨Nat,fun j=>[(0, .ptr 0 0 0),(3, .p (i64 (qAP [] (ds.take k)+1:Nat))),(4, .p (i64 (qAs (ds.take k):Nat))),(5, .p (i64 ((qAZ [] (ds.take k):Nat) * dn ^ j))),(7, .ptr 3 0 0),(13, .p (des ds)),(14, .p (i64 ds.length)),(15, .p (i64 k)),(41, .p (i64 (1:Nat))),(42, .p (i64 j))],fun _=>⟨4,[(3,dcO ⟨dk,dn,dnm,dpl,drs,dcs⟩),(2,isO l),(1,fmO (qCE ds)),(0,ckO ds (b:Nat) 2 l.length)]⟩,fun j=>j<=1,fun j=>1 - j,?_,?_⟩
  ·exact⟨0,Nat.zero_le _,qAA [] [] [] rfl ⟨⟨rfl,rfl⟩,rfl,rfl,congrArg (fun z:Int=>i64 z) (by rw [Int.pow_zero,Int.mul_one]),⟨rfl,rfl⟩,rfl,rfl,rfl,rfl,rfl,trivial⟩ (sk) rfl⟩
  intro j hj
  refine QAD (fun j1=>?_) (fun j1=>?_)
  ·have j1:(j:Int)<(1:Nat):=j1
   have hb1:=hbd (j+1) (by omega)
   refine⟨(qAZ [] (ds.take k):Nat) * dn ^ (j+1),by rw [Int.pow_succ,<- Int.mul_assoc] at hb1 ⊢;exact w6z,?_⟩
   refine⟨_,w6z,?_⟩
   exact⟨j+1,by omega,qAA [] [] [] rfl (sk) (sk) rfl,by show 1 - (j+1)<1 - j;omega⟩
  have j1:¬ (j:Int)<(1:Nat):=j1
  have hjm:j=1:=by omega
  subst hjm
  refine⟨_,w6z,?_⟩
  exact⟨k+1,⟨by omega,by rw [hN];omega⟩,qAA [] [] [] rfl ⟨⟨rfl,rfl⟩,congrArg (fun z:Nat=>i64 z) hN,congrArg (fun z:Nat=>i64 z) hG,congrArg (fun z:Int=>i64 z) hW2.symm,rfl,rfl,rfl,trivial⟩ (sk) rfl,by show ds.length - (k+1)<ds.length - k;omega⟩
 have q4:¬ dk=4:=q4
 refine QAD (fun q3=>?_) (fun q3=>?_)
 ·have q3:dk=3:=q3
  rw [if_pos q3] at sN sW
  refine And.intro (fun hp=>?_) (fun hp=>?_)
  ·have hp:dpl=[]:=hp
   rw [if_pos hp] at sN sW
   have hN:=sN
   have hq:1<=1->2<=dn/\dn<=4:=fun _=>hcard (.inl q3)
   have hW2:=(w2 1 hq).trans (congrArg (fun z:Nat=>(z:Int)) sW.symm)
   refine⟨((qAP [] (ds.take k)+1:Nat):Int),by rw [Int.natCast_add];exact w6z,?_⟩
   refine QAD (fun g8=>?_) (fun g8=>?_)
   ·have g8:(8:Int)<((qAP [] (ds.take k)+1:Nat):Int):=g8
    have hm:=qDE (ds:=ds) (k+1)
    exact⟨[],[],[], .returned (.p (.bool true)),ckS ds b (qCE ds) l,rfl,sk,sk,by rw [show qHZ ds=true by unfold qHZ;rw [decide_eq_true (show 8<qAP [] ds by omega)];simp],rfl⟩
   have g8:¬ (8:Int)<((qAP [] (ds.take k)+1:Nat):Int):=g8
   have hbd:=qKF (q:=dn) hWl (show qAP [] (ds.take k)+1<=8 by omega) hq
   refine⟨Nat,fun j=>[(0, .ptr 0 0 0),(3, .p (i64 (qAP [] (ds.take k)+1:Nat))),(4, .p (i64 (qAs (ds.take k):Nat))),(5, .p (i64 ((qAZ [] (ds.take k):Nat) * dn ^ j))),(7, .ptr 3 0 0),(13, .p (des ds)),(14, .p (i64 ds.length)),(15, .p (i64 k)),(41, .p (i64 (1:Nat))),(42, .p (i64 j))],fun _=>⟨4,[(3,dcO ⟨dk,dn,dnm,dpl,drs,dcs⟩),(2,isO l),(1,fmO (qCE ds)),(0,ckO ds (b:Nat) 2 l.length)]⟩,fun j=>j<=1,fun j=>1 - j,?_,?_⟩
   ·exact⟨0,Nat.zero_le _,qAA [] [] [] rfl ⟨⟨rfl,rfl⟩,rfl,rfl,congrArg (fun z:Int=>i64 z) (by rw [Int.pow_zero,Int.mul_one]),⟨rfl,rfl⟩,rfl,rfl,rfl,rfl,rfl,trivial⟩ (sk) rfl⟩
   intro j hj
   refine QAD (fun j1=>?_) (fun j1=>?_)
   ·have j1:(j:Int)<(1:Nat):=j1
    have hb1:=hbd (j+1) (by omega)
    refine⟨(qAZ [] (ds.take k):Nat) * dn ^ (j+1),by rw [Int.pow_succ,<- Int.mul_assoc] at hb1 ⊢;exact w6z,?_⟩
    refine⟨_,w6z,?_⟩
    exact⟨j+1,by omega,qAA [] [] [] rfl (sk) (sk) rfl,by show 1 - (j+1)<1 - j;omega⟩
   have j1:¬ (j:Int)<(1:Nat):=j1
   have hjm:j=1:=by omega
   subst hjm
   refine⟨_,w6z,?_⟩
   exact⟨k+1,⟨by omega,by rw [hN];omega⟩,qAA [] [] [] rfl ⟨⟨rfl,rfl⟩,congrArg (fun z:Nat=>i64 z) hN,congrArg (fun z:Nat=>i64 z) hG,congrArg (fun z:Int=>i64 z) hW2.symm,rfl,rfl,rfl,trivial⟩ (sk) rfl,by show ds.length - (k+1)<ds.length - k;omega⟩
  ·have hp:¬ dpl=[]:=hp
   rw [if_neg hp] at sN sW
   have hf:=hfull q3 hp
   have hs:=hspos q3 hp
   have hS:=qSE b l hcs hp
   rw [List.take_length,hf] at hS
   obtain⟨m,hm⟩:∃ m:Nat,qBT (ds.take k) dpl=(m:Nat):=⟨(qBT (ds.take k) dpl).toNat,by omega⟩
   rw [hm] at hS
   rw [hm,Int.toNat_natCast] at sN sW
   have hN:=sN
   have hq:1<=m->2<=dn/\dn<=4:=fun _=>hcard (.inl q3)
   have hW2:=(w2 m hq).trans (congrArg (fun z:Nat=>(z:Int)) sW.symm)
   have hm6:m<=6:=by omega
   refine hS.holds.useT [] [] rfl (sk) (sk) fun e0 H0 hq=>?_
   obtain⟨rfl,rfl⟩:=hq
   refine⟨rfl,_,⟨4,(2,isO l)::(1,fmO (qCE ds))::(0,ckO ds (b:Nat) 2 l.length)::[(3,dcO ⟨dk,dn,dnm,dpl,drs,dcs⟩)]⟩,rfl,rfl,?_⟩
   refine⟨((qAP [] (ds.take k)+m:Nat):Int),by rw [Int.natCast_add];exact w6z,?_⟩
   refine QAD (fun g8=>?_) (fun g8=>?_)
   ·have g8:(8:Int)<((qAP [] (ds.take k)+m:Nat):Int):=g8
    have hm:=qDE (ds:=ds) (k+1)
    exact⟨[],[],[], .returned (.p (.bool true)),ckS ds b (qCE ds) l,rfl,sk,sk,by rw [show qHZ ds=true by unfold qHZ;rw [decide_eq_true (show 8<qAP [] ds by omega)];simp],rfl⟩
   have g8:¬ (8:Int)<((qAP [] (ds.take k)+m:Nat):Int):=g8
   have hbd:=qKF (q:=dn) hWl (show qAP [] (ds.take k)+m<=8 by omega) hq
   refine⟨Nat,fun j=>[(0, .ptr 0 0 0),(3, .p (i64 (qAP [] (ds.take k)+m:Nat))),(4, .p (i64 (qAs (ds.take k):Nat))),(5, .p (i64 ((qAZ [] (ds.take k):Nat) * dn ^ j))),(7, .ptr 3 0 0),(13, .p (des ds)),(14, .p (i64 ds.length)),(15, .p (i64 k)),(41, .p (i64 (m:Nat))),(42, .p (i64 j))],fun _=>⟨4,[(3,dcO ⟨dk,dn,dnm,dpl,drs,dcs⟩),(2,isO l),(1,fmO (qCE ds)),(0,ckO ds (b:Nat) 2 l.length)]⟩,fun j=>j<=m,fun j=>m - j,?_,?_⟩
   ·exact⟨0,Nat.zero_le _,qAA [] [] [] rfl ⟨⟨rfl,rfl⟩,rfl,rfl,congrArg (fun z:Int=>i64 z) (by rw [Int.pow_zero,Int.mul_one]),⟨rfl,rfl⟩,rfl,rfl,rfl,rfl,rfl,trivial⟩ (sk) rfl⟩
   intro j hj
   refine QAD (fun j1=>?_) (fun j1=>?_)
   ·have j1:(j:Int)<(m:Nat):=j1
    have hb1:=hbd (j+1) (by omega)
    refine⟨(qAZ [] (ds.take k):Nat) * dn ^ (j+1),by rw [Int.pow_succ,<- Int.mul_assoc] at hb1 ⊢;exact w6z,?_⟩
    refine⟨_,w6z,?_⟩
    exact⟨j+1,by omega,qAA [] [] [] rfl (sk) (sk) rfl,by show m - (j+1)<m - j;omega⟩
   have j1:¬ (j:Int)<(m:Nat):=j1
   have hjm:j=m:=by omega
   subst hjm
   refine⟨_,w6z,?_⟩
   exact⟨k+1,⟨by omega,by rw [hN];omega⟩,qAA [] [] [] rfl ⟨⟨rfl,rfl⟩,congrArg (fun z:Nat=>i64 z) hN,congrArg (fun z:Nat=>i64 z) hG,congrArg (fun z:Int=>i64 z) hW2.symm,rfl,rfl,rfl,trivial⟩ (sk) rfl,by show ds.length - (k+1)<ds.length - k;omega⟩
 ·have q3:¬ dk=3:=q3
  rw [if_neg q3,if_neg q4] at sN sW
  have hN:=sN
  have hq:1<=0->2<=dn/\dn<=4:=fun h=>absurd h (by decide)
  have hW2:=(w2 0 hq).trans (congrArg (fun z:Nat=>(z:Int)) sW.symm)
  refine⟨((qAP [] (ds.take k)+0:Nat):Int),by rw [Int.natCast_add];exact w6z,?_⟩
  refine QAD (fun g8=>?_) (fun g8=>?_)
  ·have g8:(8:Int)<((qAP [] (ds.take k)+0:Nat):Int):=g8
   have hm:=qDE (ds:=ds) (k+1)
   exact⟨[],[],[], .returned (.p (.bool true)),ckS ds b (qCE ds) l,rfl,sk,sk,by rw [show qHZ ds=true by unfold qHZ;rw [decide_eq_true (show 8<qAP [] ds by omega)];simp],rfl⟩
  have g8:¬ (8:Int)<((qAP [] (ds.take k)+0:Nat):Int):=g8
  have hbd:=qKF (q:=dn) hWl (show qAP [] (ds.take k)+0<=8 by omega) hq
  refine⟨Nat,fun j=>[(0, .ptr 0 0 0),(3, .p (i64 (qAP [] (ds.take k)+0:Nat))),(4, .p (i64 (qAs (ds.take k):Nat))),(5, .p (i64 ((qAZ [] (ds.take k):Nat) * dn ^ j))),(7, .ptr 3 0 0),(13, .p (des ds)),(14, .p (i64 ds.length)),(15, .p (i64 k)),(41, .p (i64 (0:Nat))),(42, .p (i64 j))],fun _=>⟨4,[(3,dcO ⟨dk,dn,dnm,dpl,drs,dcs⟩),(2,isO l),(1,fmO (qCE ds)),(0,ckO ds (b:Nat) 2 l.length)]⟩,fun j=>j<=0,fun j=>0 - j,?_,?_⟩
  ·exact⟨0,Nat.zero_le _,qAA [] [] [] rfl ⟨⟨rfl,rfl⟩,rfl,rfl,congrArg (fun z:Int=>i64 z) (by rw [Int.pow_zero,Int.mul_one]),⟨rfl,rfl⟩,rfl,rfl,rfl,rfl,rfl,trivial⟩ (sk) rfl⟩
  intro j hj
  refine QAD (fun j1=>?_) (fun j1=>?_)
  ·have j1:(j:Int)<(0:Nat):=j1
   have hb1:=hbd (j+1) (by omega)
   refine⟨(qAZ [] (ds.take k):Nat) * dn ^ (j+1),by rw [Int.pow_succ,<- Int.mul_assoc] at hb1 ⊢;exact w6z,?_⟩
   refine⟨_,w6z,?_⟩
   exact⟨j+1,by omega,qAA [] [] [] rfl (sk) (sk) rfl,by show 0 - (j+1)<0 - j;omega⟩
  have j1:¬ (j:Int)<(0:Nat):=j1
  have hjm:j=0:=by omega
  subst hjm
  refine⟨_,w6z,?_⟩
  exact⟨k+1,⟨by omega,by rw [hN];omega⟩,qAA [] [] [] rfl ⟨⟨rfl,rfl⟩,congrArg (fun z:Nat=>i64 z) hN,congrArg (fun z:Nat=>i64 z) hG,congrArg (fun z:Int=>i64 z) hW2.symm,rfl,rfl,rfl,trivial⟩ (sk) rfl,by show ds.length - (k+1)<ds.length - k;omega⟩
abbrev pgS (ds:List De):Hp:=⟨2,[(1,fmO []),(0,⟨TCk,false, .bx [.p (des ds), .p (i64 0), .mp 1, .p .nils]⟩)]⟩
abbrev pgT (ds:List De) (b:Nat) (es:List (List UInt8 × PV)) (l:List Iss):Hp:=⟨3,[(2,isO l),(1,fmO es),(0,ckO ds (b:Nat) 2 l.length)]⟩
theorem qPh (ds:List De) (k:Int):HoldsG cx 48 [.ptr 0 0 0, .p (i64 k), .p .nils] (pgS ds) (fun e H'=>e=.returned und/\H'=pgT ds 0 [] [⟨k,0,[]⟩]):=by
 refine qAC Tryz.func48 rfl rfl rfl ?_
 refine⟨Unit,fun _=>[(0, .ptr 0 0 0),(6, .ptr 2 0 0),(15, .p .nils),(16, .p (i64 0)),(17, .p (i64 0))],fun _=>⟨3,[(2,⟨qVw,false, .bx [.p (i64 k), .p (i64 0), .p (.str [])]⟩),(1,fmO []),(0,⟨TCk,false, .bx [.p (des ds), .p (i64 0), .mp 1, .p .nils]⟩)]⟩,fun _=>True,fun _=>0,?_,?_⟩
 ·exact⟨(),trivial,qAA [] [] [] rfl (sk) (sk) rfl⟩
 intro _ _
 refine And.intro (fun h=>absurd (show(0:Int)<0 from h) (by decide)) (fun _=>?_)
 refine qAG qWB (by kernel_rfl) ?_
 refine⟨by show 1 * 32<=140737488355328;decide,?_⟩
 exact⟨[],[(2,3)],[], .returned und,pgT ds 0 [] [⟨k,0,[]⟩],rfl,sk,sk,rfl,rfl⟩
abbrev qTG:OT:=(.pure 0 (.pure 1 (.pure 2 (.pure 3 (.pure 4 (.pure 5 (.pure 6 (.eff 7 [] .fin .nil))))))))
def faO:AObj:=⟨133,false, .bx [.p .nilFn, .fn (.func 49) [.ptr 0 0 0] [], .fn (.func 50) [.ptr 0 0 0] [], .fn (.func 51) [.ptr 0 0 0] [], .fn (.func 52) [.ptr 0 0 0] [], .fn (.func 53) [.ptr 0 0 0] []]⟩
def pgQ (ds:List De) (l:List Iss) (e:AE) (H':Hp):Prop:=e=.returned und/\∃ b es,H'=pgT ds b es l
abbrev pgH (ds:List De) (x:Nat × List Iss):Hp:=⟨4,[(3,faO),(2,isO x.2),(1,fmO (qCE (ds.take x.1))),(0,ckO ds (x.1 - 1:Nat) 2 x.2.length)]⟩
theorem qPu {ds:List De} {k:Nat} (hk:k<ds.length):qCE (ds.take (k+1))=qCE (ds.take k)++(if (ds.getD k de0).name=[]∨(qBz (ds.take k) (ds.getD k de0).name).isSome then [] else [((ds.getD k de0).name,i64 (k:Nat))]):=by
 rw [qAE de0 hk,qKS,List.length_take,show min k ds.length=k by omega]
theorem qKk {ds:List De} {g:Int} {k:Nat} (hk:k<ds.length):qBm g [] (ds.take (k+1))=qBm g [] (ds.take k)++qCW (ds.take k) (ds.getD k de0) g:=by
 rw [qAE de0 hk,qKl]
 show _++(_++[])=_
 rw [List.append_nil];rfl
theorem qVX {ds:List De} {k:Nat} (hv:ds.length<=30) (hk:k<=ds.length):CkS ds k (qCE (ds.take k)):=⟨fun nm hn=>qL2 _ hn,hv,hk⟩
theorem qN0 (ds:List De) (hv:qAt ds=true):HoldsG cx 28 [.ptr 0 0 0] (pgS ds) (pgQ ds (qFP ds)):=by
 obtain⟨hlen,hdv⟩:=qC9 hv
 have hm:(ds.map De.cells).length=ds.length:=List.length_map ..
 have hpre:∀ k,(qCk ds++qBm (qAb ds) [] (ds.take k)).length<=13000:=fun k=>by
  have h1:=qHJ ds
  have h2:=qFJ (qAb ds) (ds.take k) [] fun d hd=>hdv d (List.mem_of_mem_take hd)
  rw [List.length_take] at h2
  rw [List.length_append];omega
 obtain⟨R,hR⟩:∃ R,R=qFP ds:=⟨_,rfl⟩
 rw [<- hR]
 refine qAC Tryz.func28 rfl rfl rfl ?_
 apply cut
 case h=>
  intro key
  have hin:∀ X,X=qCk ds->(0:Nat)<=ds.length/\X=qCk ds++qBm (qAb ds) [] (ds.take 0):=fun X hX=>⟨Nat.zero_le _,by rw [hX];show _=qCk ds++[];rw [List.append_nil]⟩
  by_cases h0:ds=[]
  ·refine And.intro (fun _=>?_) (fun h=>absurd (show((ds.map De.cells).length:Int)=0 by rw [h0];rfl) h)
   refine(qPh ds 1).holds.useT [] [] rfl (sk) (sk) fun e0 H0 hq=>?_
   obtain⟨rfl,rfl⟩:=hq
   refine⟨rfl,_,⟨3,(2,isO [⟨1,0,[]⟩])::(1,fmO [])::(0,ckO ds 0 2 1)::[]⟩,rfl,rfl,?_⟩
   exact⟨Nat × List Iss,fun x=>[(0, .ptr 0 0 0),(2, .ptr 3 0 0),(42, .p (des ds)),(43, .p (i64 ds.length)),(44, .p (i64 x.1))],pgH ds,fun x=>x.1<=ds.length/\x.2=qCk ds++qBm (qAb ds) [] (ds.take x.1),fun x=>ds.length - x.1,⟨(0,[⟨1,0,[]⟩]),hin _ (by first | exact hd.symm | (rw [h0];rfl)),qAA [] [] [] rfl ⟨⟨rfl,rfl⟩,⟨rfl,rfl⟩,rfl,congrArg (fun n:Nat=>i64 n) hm.symm,rfl,trivial⟩ (sk) rfl⟩,key.get⟩
  ·have hpos:1<=ds.length:=by
    cases ds with
    | nil=>exact absurd rfl h0
    | cons d r=>show 1<=r.length+1;omega
   have hh:∃ t:De,(ds.map De.cells)[0]?=some t.cells/\(qCk ds=if t.kind=1 then [] else [⟨1,0,[]⟩]):=by
    cases ds with
    | nil=>exact absurd rfl h0
    | cons t r=>exact⟨t,rfl,rfl⟩
   obtain⟨⟨tk,tn,tnm,tpl,trs,tcs⟩,ht,hd⟩:=hh
   refine And.intro (fun h=>absurd (show((ds.map De.cells).length:Int)=0 from h) (by rw [hm];omega)) (fun _=>?_)
   refine⟨_,⟨by decide,(De.mk tk tn tnm tpl trs tcs).cells,ht,rfl⟩,?_⟩
   refine And.intro (fun k1=>?_) (fun k1=>?_)
   ·have k1:tk=1:=k1
    simp only [if_pos k1] at hd
    exact⟨Nat × List Iss,fun x=>[(0, .ptr 0 0 0),(2, .ptr 3 0 0),(42, .p (des ds)),(43, .p (i64 ds.length)),(44, .p (i64 x.1))],pgH ds,fun x=>x.1<=ds.length/\x.2=qCk ds++qBm (qAb ds) [] (ds.take x.1),fun x=>ds.length - x.1,⟨(0,[]),hin [] hd.symm,qAA [] [(3,2)] [(2,3)] rfl ⟨⟨rfl,rfl⟩,⟨rfl,rfl⟩,rfl,congrArg (fun n:Nat=>i64 n) hm.symm,rfl,trivial⟩ (sk) rfl⟩,key.get⟩
   ·have k1:¬ tk=1:=k1
    simp only [if_neg k1] at hd
    refine(qPh ds 1).holds.useT [] [] rfl (sk) (sk) fun e0 H0 hq=>?_
    obtain⟨rfl,rfl⟩:=hq
    refine⟨rfl,_,⟨3,(2,isO [⟨1,0,[]⟩])::(1,fmO [])::(0,ckO ds 0 2 1)::[]⟩,rfl,rfl,?_⟩
    exact⟨Nat × List Iss,fun x=>[(0, .ptr 0 0 0),(2, .ptr 3 0 0),(42, .p (des ds)),(43, .p (i64 ds.length)),(44, .p (i64 x.1))],pgH ds,fun x=>x.1<=ds.length/\x.2=qCk ds++qBm (qAb ds) [] (ds.take x.1),fun x=>ds.length - x.1,⟨(0,[⟨1,0,[]⟩]),hin _ (by first | exact hd.symm | (rw [h0];rfl)),qAA [] [] [] rfl ⟨⟨rfl,rfl⟩,⟨rfl,rfl⟩,rfl,congrArg (fun n:Nat=>i64 n) hm.symm,rfl,trivial⟩ (sk) rfl⟩,key.get⟩
 case k=>
  rintro⟨k,cur⟩ ⟨k1,k2⟩
  simp only [] at k1 k2
  have hcl:cur.length<=13000:=by rw [k2];exact hpre k
  refine QAD (fun m1=>?_) (fun m1=>?_)
  rotate_left
  ·have m1:¬ (k:Int)<(ds.length:Nat):=m1
   have et:ds.take k=ds:=qAc (by omega)
   rw [et] at k2
   have hkl:k=ds.length:=by omega
   by_cases hb:cur=[]
   ·subst hb
    have hno:qBm (qAb ds) [] ds=[]:=(List.append_eq_nil_iff.1 k2.symm).2
    have hRa:R=if qHZ ds then [⟨10,ds.length,[]⟩] else []:=by rw [hR,qFP,if_pos (show qKx ds=[] from k2.symm)]
    have hB:=qWP (k - 1) [] hlen hno
    rw [show qCE ds=qCE (ds.take k) by rw [et]] at hB
    refine And.intro (fun _=>?_) (fun h=>absurd rfl h)
    by_cases hbg:qHZ ds=true
    ·rw [if_pos hbg] at hRa
     rw [hbg] at hB
     refine hB.holds.useT [] [] rfl (sk) (sk) fun e0 H0 hq=>?_
     obtain⟨rfl,rfl⟩:=hq
     refine⟨rfl,_,⟨4,(2,isO [])::(1,fmO (qCE (ds.take k)))::(0,ckO ds (k - 1:Nat) 2 0)::[(3,faO)]⟩,rfl,rfl,?_⟩
     refine(qFk ds (ds.map De.cells).length (qCE (ds.take k)) [] 10 (by simp)).holds.useT [] [] rfl (sk) (sk) fun e0 H0 hq=>?_
     obtain⟨rfl,rfl⟩:=hq
     refine⟨rfl,_,⟨5,(4,isO [Iss.mk 10 ((ds.map De.cells).length:Nat) []])::(1,fmO (qCE (ds.take k)))::(0,ckO ds ((ds.map De.cells).length:Nat) 4 1)::[(3,faO)]⟩,rfl,rfl,?_⟩
     exact⟨[],[(2,4)],[], .returned und,pgT ds (ds.map De.cells).length (qCE (ds.take k)) [⟨10,((ds.map De.cells).length:Nat),[]⟩],rfl,sk,sk,rfl,_,_,by rw [hRa,hm]⟩
    ·rw [if_neg hbg] at hRa
     rw [Bool.not_eq_true] at hbg
     rw [hbg] at hB
     refine hB.holds.useT [] [] rfl (sk) (sk) fun e0 H0 hq=>?_
     obtain⟨rfl,rfl⟩:=hq
     refine⟨rfl,_,⟨4,(2,isO [])::(1,fmO (qCE (ds.take k)))::(0,ckO ds (k - 1:Nat) 2 0)::[(3,faO)]⟩,rfl,rfl,?_⟩
     exact⟨[],[],[], .returned und,pgT ds (k - 1) (qCE (ds.take k)) [],rfl,sk,sk,rfl,k - 1,_,by rw [hRa]⟩
   ·have hRa:R=cur:=by
     rw [hR,qFP,if_neg (show ¬ qKx ds=[] from fun e=>hb (k2.trans e))];exact k2.symm
    have hl0:¬ cur.length=0:=fun e=>hb (List.eq_nil_of_length_eq_zero e)
    refine And.intro (fun h=>absurd (show((cur.length:Nat):Int)=0 from h) (by omega)) (fun _=>?_)
    exact⟨[],[],[], .returned und,pgT ds (k - 1) (qCE (ds.take k)) cur,rfl,sk,sk,rfl,k - 1,_,by rw [hRa]⟩
  have m1:(k:Int)<(ds.length:Nat):=m1
  have hk:k<ds.length:=by omega
  have hcell:=qDm hk
  have hd:=hdv _ (qAI de0 hk)
  have hC:=qVX hlen k1
  have hmap:=qPu hk
  have hnx:=qKk (g:=qAb ds) hk
  have k4:cur++qCW (ds.take k) (ds.getD k de0) (qAb ds)=qCk ds++qBm (qAb ds) [] (ds.take (k+1)):=by rw [hnx,<- List.append_assoc,<- k2]
  have k5:(cur++qCW (ds.take k) (ds.getD k de0) (qAb ds)).length<=90000:=by rw [k4];have:=hpre (k+1);omega
  generalize ds.getD k de0=d at hcell hd hmap k4 k5
  clear hnx k2 hR
  have hd:=hd.ok
  obtain⟨dk,dn,dnm,dpl,drs,dcs⟩:=d
  simp only [] at hmap
  refine⟨_,⟨by omega,(De.mk dk dn dnm dpl drs dcs).cells,hcell,rfl⟩,?_⟩
  have hkind:=hd.ok.kind
  have hbare:=hd.ok.bare
  have hname:=hd.ok.name
  simp only [] at hkind hbare hname
  by_cases hb:dnm=[]
  ·have hnone:qBF (qCE (ds.take k)) dnm=none:=by rw [hb];exact qRt _
   rw [if_pos (.inl hb),List.append_nil] at hmap
   rcases hkind with rfl | rfl | rfl | rfl | rfl
   ·have hG:=qRp cur hC ⟨1,dn,dnm,dpl,drs,dcs⟩ rfl k5
    generalize cur++qCW (ds.take k) ⟨1,dn,dnm,dpl,drs,dcs⟩ (qAb ds)=nxt at hG k4
    refine VDraw.seq rfl ?_
    refine⟨by show(0:Int)<=1/\(1:Int)<6;decide,?_⟩
    refine⟨_,rfl,?_⟩
    refine(hG).holds.useT [] [] rfl (sk) (sk) fun e0 H0 hq=>?_
    obtain⟨rfl,rfl⟩:=hq
    refine⟨rfl,_,⟨6,(5,isO nxt)::(1,fmO (qCE (ds.take k)))::(0,ckO ds (k:Nat) 5 nxt.length)::[(4,dcO ⟨1,dn,dnm,dpl,drs,dcs⟩),(3,faO)]⟩,rfl,rfl,?_⟩
    refine VDraw.seq rfl ?_
    refine⟨_, .inr ⟨hnone,rfl⟩,?_⟩
    refine And.intro (fun _=>?_) (fun h=>absurd hb h)
    refine⟨((k+1:Nat):Int),by rw [Int.natCast_add];exact w6z,?_⟩
    exact⟨(k+1,nxt),⟨by show k+1<=ds.length;omega,k4⟩,qAA [] [(2,5),(3,3)] [] rfl (sk) ⟨⟨_,rfl,rfl,rfl,sk⟩,⟨_,rfl,rfl,rfl,rfl⟩,⟨_,rfl,rfl,rfl,congrArg Cn.ms (hmap.symm)⟩,⟨_,rfl,rfl,rfl,sk⟩,trivial⟩ rfl,by show ds.length - (k+1)<ds.length - k;omega⟩
   ·exact absurd hb (hname (.inl rfl))
   ·exact absurd hb (hname (.inr (.inl rfl)))
   ·exact absurd hb (hname (.inr (.inr rfl)))
   ·have hG:=qTZ cur hC ⟨5,dn,dnm,dpl,drs,dcs⟩ hd rfl k5
    generalize cur++qCW (ds.take k) ⟨5,dn,dnm,dpl,drs,dcs⟩ (qAb ds)=nxt at hG k4
    refine VDraw.seq rfl ?_
    refine⟨by show(0:Int)<=5/\(5:Int)<6;decide,?_⟩
    refine⟨_,rfl,?_⟩
    refine(hG).holds.useT [] [] rfl (sk) (sk) fun e0 H0 hq=>?_
    obtain⟨rfl,rfl⟩:=hq
    refine⟨rfl,_,⟨6,(5,isO nxt)::(1,fmO (qCE (ds.take k)))::(0,ckO ds (k:Nat) 5 nxt.length)::[(4,dcO ⟨5,dn,dnm,dpl,drs,dcs⟩),(3,faO)]⟩,rfl,rfl,?_⟩
    refine VDraw.seq rfl ?_
    refine⟨_, .inr ⟨hnone,rfl⟩,?_⟩
    refine And.intro (fun _=>?_) (fun h=>absurd hb h)
    refine⟨((k+1:Nat):Int),by rw [Int.natCast_add];exact w6z,?_⟩
    exact⟨(k+1,nxt),⟨by show k+1<=ds.length;omega,k4⟩,qAA [] [(2,5),(3,3)] [] rfl (sk) ⟨⟨_,rfl,rfl,rfl,sk⟩,⟨_,rfl,rfl,rfl,rfl⟩,⟨_,rfl,rfl,rfl,congrArg Cn.ms (hmap.symm)⟩,⟨_,rfl,rfl,rfl,sk⟩,trivial⟩ rfl,by show ds.length - (k+1)<ds.length - k;omega⟩
  ·have hfa:=qL2 (ds.take k) hb
   have hor:(qBF (qCE (ds.take k)) dnm=none/\qCE (ds.take (k+1))=qCE (ds.take k)++[(dnm,i64 (k:Nat))])∨∃ i:Nat,qBF (qCE (ds.take k)) dnm=some (i64 (i:Nat))/\qCE (ds.take (k+1))=qCE (ds.take k):=by
    cases hi:qBz (ds.take k) dnm with
    | none=>rw [hi] at hfa hmap;exact .inl ⟨hfa,by rw [hmap,if_neg (by intro h;rcases h with h | h;exact hb h;cases h)]⟩
    | some i=>rw [hi] at hfa hmap;exact .inr ⟨i,hfa,by rw [hmap,if_pos (.inr rfl),List.append_nil]⟩
   rcases hkind with rfl | rfl | rfl | rfl | rfl
   ·exact absurd (hbare (.inl rfl)) hb
   ·have hG:=qRX cur hC ⟨2,dn,dnm,dpl,drs,dcs⟩ hd.ok rfl k5
    generalize cur++qCW (ds.take k) ⟨2,dn,dnm,dpl,drs,dcs⟩ (qAb ds)=nxt at hG k4
    refine VDraw.seq rfl ?_
    refine Or.elim hor (fun hi=>?_) (fun hi=>?_)
    ·obtain⟨hi1,hi2⟩:=hi
     refine⟨by show(0:Int)<=2/\(2:Int)<6;decide,?_⟩
     refine⟨_,rfl,?_⟩
     refine(hG).holds.useT [] [] rfl (sk) (sk) fun e0 H0 hq=>?_
     obtain⟨rfl,rfl⟩:=hq
     refine⟨rfl,_,⟨6,(5,isO nxt)::(1,fmO (qCE (ds.take k)))::(0,ckO ds (k:Nat) 5 nxt.length)::[(4,dcO ⟨2,dn,dnm,dpl,drs,dcs⟩),(3,faO)]⟩,rfl,rfl,?_⟩
     refine VDraw.seq rfl ?_
     refine⟨_, .inr ⟨hi1,rfl⟩,?_⟩
     refine And.intro (fun h=>absurd h hb) (fun _=>?_)
     refine qAG qTG (by kernel_rfl) ?_
     refine⟨_,rfl,?_⟩
     refine⟨((k+1:Nat):Int),by rw [Int.natCast_add];exact w6z,?_⟩
     exact⟨(k+1,nxt),⟨by show k+1<=ds.length;omega,k4⟩,qAA [] [(2,5),(3,3)] [] rfl (sk) ⟨⟨_,rfl,rfl,rfl,sk⟩,⟨_,rfl,rfl,rfl,rfl⟩,⟨_,rfl,rfl,rfl,congrArg Cn.ms (by rw [hi2,qGQ hi1])⟩,⟨_,rfl,rfl,rfl,sk⟩,trivial⟩ rfl,by show ds.length - (k+1)<ds.length - k;omega⟩
    ·obtain⟨i,hi1,hi2⟩:=hi
     refine⟨by show(0:Int)<=2/\(2:Int)<6;decide,?_⟩
     refine⟨_,rfl,?_⟩
     refine(hG).holds.useT [] [] rfl (sk) (sk) fun e0 H0 hq=>?_
     obtain⟨rfl,rfl⟩:=hq
     refine⟨rfl,_,⟨6,(5,isO nxt)::(1,fmO (qCE (ds.take k)))::(0,ckO ds (k:Nat) 5 nxt.length)::[(4,dcO ⟨2,dn,dnm,dpl,drs,dcs⟩),(3,faO)]⟩,rfl,rfl,?_⟩
     refine VDraw.seq rfl ?_
     refine⟨_, .inl ⟨_,hi1,rfl⟩,?_⟩
     refine⟨((k+1:Nat):Int),by rw [Int.natCast_add];exact w6z,?_⟩
     exact⟨(k+1,nxt),⟨by show k+1<=ds.length;omega,k4⟩,qAA [] [(2,5),(3,3)] [] rfl (sk) ⟨⟨_,rfl,rfl,rfl,sk⟩,⟨_,rfl,rfl,rfl,rfl⟩,⟨_,rfl,rfl,rfl,congrArg Cn.ms (hi2.symm)⟩,⟨_,rfl,rfl,rfl,sk⟩,trivial⟩ rfl,by show ds.length - (k+1)<ds.length - k;omega⟩
   ·have hG:=qTJ cur hC ⟨3,dn,dnm,dpl,drs,dcs⟩ hd rfl (by omega) k5
    generalize cur++qCW (ds.take k) ⟨3,dn,dnm,dpl,drs,dcs⟩ (qAb ds)=nxt at hG k4
    refine VDraw.seq rfl ?_
    refine Or.elim hor (fun hi=>?_) (fun hi=>?_)
    ·obtain⟨hi1,hi2⟩:=hi
     refine⟨by show(0:Int)<=3/\(3:Int)<6;decide,?_⟩
     refine⟨_,rfl,?_⟩
     refine(hG).holds.useT [] [] rfl (sk) (sk) fun e0 H0 hq=>?_
     obtain⟨rfl,rfl⟩:=hq
     refine⟨rfl,_,⟨6,(5,isO nxt)::(1,fmO (qCE (ds.take k)))::(0,ckO ds (k:Nat) 5 nxt.length)::[(4,dcO ⟨3,dn,dnm,dpl,drs,dcs⟩),(3,faO)]⟩,rfl,rfl,?_⟩
     refine VDraw.seq rfl ?_
     refine⟨_, .inr ⟨hi1,rfl⟩,?_⟩
     refine And.intro (fun h=>absurd h hb) (fun _=>?_)
     refine qAG qTG (by kernel_rfl) ?_
     refine⟨_,rfl,?_⟩
     refine⟨((k+1:Nat):Int),by rw [Int.natCast_add];exact w6z,?_⟩
     exact⟨(k+1,nxt),⟨by show k+1<=ds.length;omega,k4⟩,qAA [] [(2,5),(3,3)] [] rfl (sk) ⟨⟨_,rfl,rfl,rfl,sk⟩,⟨_,rfl,rfl,rfl,rfl⟩,⟨_,rfl,rfl,rfl,congrArg Cn.ms (by rw [hi2,qGQ hi1])⟩,⟨_,rfl,rfl,rfl,sk⟩,trivial⟩ rfl,by show ds.length - (k+1)<ds.length - k;omega⟩
    ·obtain⟨i,hi1,hi2⟩:=hi
     refine⟨by show(0:Int)<=3/\(3:Int)<6;decide,?_⟩
     refine⟨_,rfl,?_⟩
     refine(hG).holds.useT [] [] rfl (sk) (sk) fun e0 H0 hq=>?_
     obtain⟨rfl,rfl⟩:=hq
     refine⟨rfl,_,⟨6,(5,isO nxt)::(1,fmO (qCE (ds.take k)))::(0,ckO ds (k:Nat) 5 nxt.length)::[(4,dcO ⟨3,dn,dnm,dpl,drs,dcs⟩),(3,faO)]⟩,rfl,rfl,?_⟩
     refine VDraw.seq rfl ?_
     refine⟨_, .inl ⟨_,hi1,rfl⟩,?_⟩
     refine⟨((k+1:Nat):Int),by rw [Int.natCast_add];exact w6z,?_⟩
     exact⟨(k+1,nxt),⟨by show k+1<=ds.length;omega,k4⟩,qAA [] [(2,5),(3,3)] [] rfl (sk) ⟨⟨_,rfl,rfl,rfl,sk⟩,⟨_,rfl,rfl,rfl,rfl⟩,⟨_,rfl,rfl,rfl,congrArg Cn.ms (hi2.symm)⟩,⟨_,rfl,rfl,rfl,sk⟩,trivial⟩ rfl,by show ds.length - (k+1)<ds.length - k;omega⟩
   ·have hG:=qQb cur hC ⟨4,dn,dnm,dpl,drs,dcs⟩ hd rfl k5
    generalize cur++qCW (ds.take k) ⟨4,dn,dnm,dpl,drs,dcs⟩ (qAb ds)=nxt at hG k4
    refine VDraw.seq rfl ?_
    refine Or.elim hor (fun hi=>?_) (fun hi=>?_)
    ·obtain⟨hi1,hi2⟩:=hi
     refine⟨by show(0:Int)<=4/\(4:Int)<6;decide,?_⟩
     refine⟨_,rfl,?_⟩
     refine(hG).holds.useT [] [] rfl (sk) (sk) fun e0 H0 hq=>?_
     obtain⟨rfl,rfl⟩:=hq
     refine⟨rfl,_,⟨6,(5,isO nxt)::(1,fmO (qCE (ds.take k)))::(0,ckO ds (k:Nat) 5 nxt.length)::[(4,dcO ⟨4,dn,dnm,dpl,drs,dcs⟩),(3,faO)]⟩,rfl,rfl,?_⟩
     refine VDraw.seq rfl ?_
     refine⟨_, .inr ⟨hi1,rfl⟩,?_⟩
     refine And.intro (fun h=>absurd h hb) (fun _=>?_)
     refine qAG qTG (by kernel_rfl) ?_
     refine⟨_,rfl,?_⟩
     refine⟨((k+1:Nat):Int),by rw [Int.natCast_add];exact w6z,?_⟩
     exact⟨(k+1,nxt),⟨by show k+1<=ds.length;omega,k4⟩,qAA [] [(2,5),(3,3)] [] rfl (sk) ⟨⟨_,rfl,rfl,rfl,sk⟩,⟨_,rfl,rfl,rfl,rfl⟩,⟨_,rfl,rfl,rfl,congrArg Cn.ms (by rw [hi2,qGQ hi1])⟩,⟨_,rfl,rfl,rfl,sk⟩,trivial⟩ rfl,by show ds.length - (k+1)<ds.length - k;omega⟩
    ·obtain⟨i,hi1,hi2⟩:=hi
     refine⟨by show(0:Int)<=4/\(4:Int)<6;decide,?_⟩
     refine⟨_,rfl,?_⟩
     refine(hG).holds.useT [] [] rfl (sk) (sk) fun e0 H0 hq=>?_
     obtain⟨rfl,rfl⟩:=hq
     refine⟨rfl,_,⟨6,(5,isO nxt)::(1,fmO (qCE (ds.take k)))::(0,ckO ds (k:Nat) 5 nxt.length)::[(4,dcO ⟨4,dn,dnm,dpl,drs,dcs⟩),(3,faO)]⟩,rfl,rfl,?_⟩
     refine VDraw.seq rfl ?_
     refine⟨_, .inl ⟨_,hi1,rfl⟩,?_⟩
     refine⟨((k+1:Nat):Int),by rw [Int.natCast_add];exact w6z,?_⟩
     exact⟨(k+1,nxt),⟨by show k+1<=ds.length;omega,k4⟩,qAA [] [(2,5),(3,3)] [] rfl (sk) ⟨⟨_,rfl,rfl,rfl,sk⟩,⟨_,rfl,rfl,rfl,rfl⟩,⟨_,rfl,rfl,rfl,congrArg Cn.ms (hi2.symm)⟩,⟨_,rfl,rfl,rfl,sk⟩,trivial⟩ rfl,by show ds.length - (k+1)<ds.length - k;omega⟩
   ·exact absurd (hbare (.inr rfl)) hb
def scO (ds:List De):AObj:=⟨40,false, .bx [.p (des ds)]⟩
theorem qJP (ds:List De) (hb:BigP ds):Pure cx 9 [qCs ds] (·=.ret (qNB ds)):=by
 have hC:=qMp ds hb
 rw [qTr] at hC
 by_cases hv:qAt ds=true
 ·have hI:qNB ds=[isl (qFP ds),i64 0]:=by rw [qNB,if_pos hv]
  rw [hI]
  rw [if_pos hv] at hC
  refine qAB Tryz.func9 rfl rfl rfl ?_
  refine hC.eq rfl ?_
  refine And.intro (fun _=>?_) (fun h=>absurd rfl h)
  refine(qN0 ds hv).holds.useT [] [(0,2)] rfl (sk) (sk) fun e0 H0 hq=>?_
  obtain⟨rfl,b,es,rfl⟩:=hq
  generalize qFP ds=R
  refine⟨rfl,_,⟨4,(3,isO R)::(1,fmO es)::(2,ckO ds (b:Nat) 3 R.length)::[(0,scO ds)]⟩,rfl,rfl,?_⟩
  exact qFt (isl R) (i64 0) rfl ⟨_,rfl,by show 0+R.length<=(R.map Iss.cells).length;simp,qAD (by simp)⟩ rfl rfl
 ·have hI:qNB ds=[isl [],i64 380]:=by rw [qNB,if_neg hv]
  rw [hI]
  rw [if_neg hv] at hC
  refine qAB Tryz.func9 rfl rfl rfl ?_
  refine hC.eq rfl ?_
  refine And.intro (fun h=>absurd (show(380:Int)=0 from h) (by decide)) (fun _=>?_)
  exact qFt (isl []) (i64 380) rfl (.inr (.inr ⟨3,rfl⟩)) rfl rfl
theorem qIz (ds:List De) (hb:BigP ds):Pure cx 17 [qCs ds] (·=.ret [i64 (qBK ds)]):=by
 have hI:=qJP ds hb
 rw [qNB] at hI
 by_cases hv:qAt ds=true
 ·rw [if_pos hv] at hI
  by_cases hn:qFP ds=[]
  ·have hs:qBK ds=0:=by rw [qBK,if_pos hv,if_pos hn]
   rw [hs]
   rw [hn] at hI
   refine qAB Tryz.func17 rfl rfl rfl ?_
   refine hI.eq rfl ?_
   refine And.intro (fun _=>?_) (fun h=>absurd rfl h)
   refine And.intro (fun h=>absurd (show(0:Int)<0 from h) (by decide)) (fun _=>?_)
   exact qAF _ rfl rfl rfl
  ·have hs:qBK ds=390:=by rw [qBK,if_pos hv,if_neg hn]
   have hl:1<=(qFP ds).length:=List.length_pos_iff.2 hn
   rw [hs]
   generalize qFP ds=R at hI hl
   refine qAB Tryz.func17 rfl rfl rfl ?_
   refine hI.eq rfl ?_
   refine And.intro (fun _=>?_) (fun h=>absurd rfl h)
   refine And.intro (fun _=>?_) (fun h=>absurd (show(0:Int)<((R.map Iss.cells).length:Nat) by rw [List.length_map];omega) h)
   exact qAF _ rfl rfl rfl
 ·rw [if_neg hv] at hI
  have hs:qBK ds=380:=by rw [qBK,if_neg hv]
  rw [hs]
  refine qAB Tryz.func17 rfl rfl rfl ?_
  refine hI.eq rfl ?_
  refine And.intro (fun h=>absurd (show(380:Int)=0 from h) (by decide)) (fun _=>?_)
  exact qAF _ rfl rfl rfl
theorem qJZ (a:List UInt8) (x:PV) (b:List UInt8):∀ es:List (List UInt8 × PV),qBF (qJA es a x) b=if b=a then some x else qBF es b
 | []=>by
  show(match decide (b=a) with | true=>some x | false=>none)=if b=a then some x else none
  by_cases h:b=a
  ·rw [decide_eq_true h,if_pos h]
  ·rw [decide_eq_false h,if_neg h]
 | (k,y)::r=>by
  rw [qJA]
  by_cases h:a=k
  ·rw [decide_eq_true h]
   show qBF ((k,x)::r) b=_
   rw [qBF,qBF]
   by_cases h2:b=k
   ·rw [decide_eq_true h2,if_pos (h2.trans h.symm)]
   ·rw [decide_eq_false h2,if_neg (fun e=>h2 (e.trans h))]
  ·rw [decide_eq_false h]
   show qBF ((k,y)::qJA r a x) b=_
   rw [qBF,qBF,qJZ a x b r]
   by_cases h2:b=k
   ·rw [decide_eq_true h2]
    show some y=if b=a then some x else some y
    rw [if_neg (fun e=>h (e.symm.trans h2))]
   ·rw [decide_eq_false h2]
structure SzM (ds:List De) (k:Nat) (es:List (List UInt8 × PV)):Prop where
 one:qBF es []=some (i64 1)
 plate:∀ nm,nm ≠ []->∀ t,qCR (ds.take k) nm=some t->t.kind=2->qBF es nm=some (i64 t.n)
theorem qNJ {ds:List De} {k:Nat} (hk:k<ds.length) {nm:List UInt8} {t:De} (h:qCR (ds.take (k+1)) nm=some t):qCR (ds.take k) nm=some t∨(qCR (ds.take k) nm=none/\t=ds.getD k de0/\t.name=nm):=by
 rw [qAE de0 hk] at h
 cases hf:qCR (ds.take k) nm with
 | some u=>rw [qNK hf] at h;exact .inl h
 | none=>
  have hm:=qJV h
  rw [qHK,List.find?_append,<- qHK,hf] at h
  have h2:=List.mem_of_find?_eq_some (show [ds.getD k de0].find? (fun d=>decide (d.name=nm))=some t from h)
  exact .inr ⟨rfl,List.mem_singleton.1 h2,hm.2⟩
theorem qMy {l:List De} {d:De} {g:Int} (h:qCW l d g=[]) (hk:d.kind=2∨d.kind=3∨d.kind=4):qCR l d.name=none:=by
 have ht:qA7 l d=[]:=by
  unfold qCW at h
  rcases hk with hk | hk | hk
  ·rw [if_neg (by omega),if_pos hk] at h
   exact(List.append_eq_nil_iff.1 h).1
  ·rw [if_neg (by omega),if_neg (by omega),if_pos hk] at h
   exact(List.append_eq_nil_iff.1 h).1
  ·rw [if_neg (by omega),if_neg (by omega),if_neg (by omega),if_pos hk] at h
   exact(List.append_eq_nil_iff.1 h).1
 unfold qA7 at ht
 split at ht
 ·cases ht
 ·rename_i hn
  cases hf:qBz l d.name with
  | none=>exact qQF hf
  | some i=>rw [hf] at hn;exact absurd rfl hn
theorem SzM.put {ds:List De} {k:Nat} {es:List (List UInt8 × PV)} (h:SzM ds k es) (hk:k<ds.length) (h2:qCR (ds.take k) (ds.getD k de0).name=none) (hn:(ds.getD k de0).name ≠ []):SzM ds (k+1) (qJA es (ds.getD k de0).name (i64 (ds.getD k de0).n)):=by
 refine⟨by rw [qJZ,if_neg (fun e=>hn e.symm)];exact h.one,fun nm hnm t ht hk2=>?_⟩
 rw [qJZ]
 rcases qNJ hk ht with h3 | ⟨h3,h4,h5⟩
 ·rw [if_neg (fun e=>by rw [e,h2] at h3;cases h3)]
  exact h.plate nm hnm t h3 hk2
 ·rw [if_pos (by rw [<- h5,h4]),h4]
theorem SzM.skip {ds:List De} {k:Nat} {es:List (List UInt8 × PV)} (h:SzM ds k es) (hk:k<ds.length) (h2:¬ (ds.getD k de0).kind=2):SzM ds (k+1) es:=by
 refine⟨h.one,fun nm hnm t ht hk2=>?_⟩
 rcases qNJ hk ht with h3 | ⟨h3,h4,h5⟩
 ·exact h.plate nm hnm t h3 hk2
 ·rw [h4] at hk2;exact absurd hk2 h2
theorem qJu {ds:List De} {k:Nat} (hk:k<ds.length):qEb [] (ds.take (k+1))=qEb [] (ds.take k)++(if (ds.getD k de0).kind=2∨(ds.getD k de0).kind=3∨(ds.getD k de0).kind=4 then [qCH (ds.take k) (ds.getD k de0)] else []):=by
 have app:∀ (a l:List De) (d:De),qEb l (a++[d])=qEb l a++(if d.kind=2∨d.kind=3∨d.kind=4 then [qCH (l++a) d] else []):=by
  intro a
  induction a with
  | nil=>intro l d;rw [List.nil_append,qEb,qEb,qEb,List.append_nil,List.append_nil];rfl
  | cons x a ih=>
   intro l d
   rw [List.cons_append,qEb,qEb,ih,List.append_assoc l [x] a,List.append_assoc];rfl
 rw [qAE de0 hk,app];rfl
def syO (l:List Sy):AObj:=⟨70,false, .pus (l.map Sy.cells)⟩
theorem qO0 (ds:List De) (hb:BigP ds):Pure cx 19 [qCs ds] (·=.ret (qUC ds)):=by
 have hC:=qIz ds hb
 rw [qUC]
 by_cases hs:qBK ds=0
 rotate_left
 ·rw [if_neg hs]
  generalize qBK ds=e at hC hs
  refine qAB Tryz.func19 rfl rfl rfl ?_
  refine hC.eq rfl ?_
  refine And.intro (fun h=>absurd (show e=0 from h) hs) (fun _=>?_)
  exact qFt (syl []) (i64 e) rfl (.inr (.inr ⟨5,rfl⟩)) rfl rfl
 rw [if_pos hs]
 rw [hs] at hC
 have hv:qAt ds=true:=by
  by_cases hv:qAt ds=true
  ·exact hv
  ·rw [qBK,if_neg hv] at hs;cases hs
 have hn:qFP ds=[]:=by
  by_cases hn:qFP ds=[]
  ·exact hn
  ·rw [qBK,if_pos hv,if_neg hn] at hs;cases hs
 obtain⟨hlen,hdv⟩:=qC9 hv
 have hno:=(base_nil hn).2.1
 have hm:(ds.map De.cells).length=ds.length:=List.length_map ..
 refine qAB Tryz.func19 rfl rfl rfl ?_
 refine hC.eq rfl ?_
 refine And.intro (fun _=>?_) (fun h=>absurd rfl h)
 refine⟨_,rfl,?_⟩
 refine⟨Nat × List (List UInt8 × PV) × List Sy,fun x=>[(5, .mp 1),(6, .sl 2 5 0 x.2.2.length),(17, .p (des ds)),(18, .p (i64 ds.length)),(19, .p (i64 x.1))],fun x=>⟨3,[(2,syO x.2.2),(1,fmO x.2.1)]⟩,fun x=>x.1<=ds.length/\SzM ds x.1 x.2.1/\x.2.2=qEb [] (ds.take x.1),fun x=>ds.length - x.1,?_,?_⟩
 ·exact⟨(0,[([],i64 1)],[]),⟨Nat.zero_le _,⟨rfl,fun nm _ t ht _=>by cases ht⟩,rfl⟩,qAA [] [] [(2,5)] rfl ⟨sk,sk,rfl,congrArg (fun n:Nat=>i64 n) hm.symm,rfl,trivial⟩ (sk) rfl⟩
 rintro⟨k,es,cur⟩ ⟨k1,k2,k3⟩
 simp only [] at k1 k2 k3
 have hcl:cur.length<=30:=by
  rw [k3,qE3]
  have:=List.length_filter_le (fun d:De=>decide (d.kind=2∨d.kind=3∨d.kind=4)) (ds.take k)
  rw [List.length_take] at this;omega
 refine QAD (fun m1=>?_) (fun m1=>?_)
 rotate_left
 ·have m1:¬ (k:Int)<(ds.length:Nat):=m1
  rw [show ds.take k=ds from qAc (by omega)] at k3
  exact qFt (syl cur) (i64 0) rfl ⟨_,rfl,by show 0+cur.length<=(cur.map Sy.cells).length;simp,qAD (by simp)⟩ rfl (by rw [k3])
 have m1:(k:Int)<(ds.length:Nat):=m1
 have hk:k<ds.length:=by omega
 have hcell:=qDm hk
 have hd:=hdv _ (qAI de0 hk)
 have h1:=qCS ds [] hno k hk
 rw [List.nil_append] at h1
 have hS:=qJu hk
 rw [<- k3] at hS
 have hput:=k2.put hk
 have hskip:=k2.skip hk
 generalize ds.getD k de0=d at hcell hd h1 hS hput hskip
 have ht:=fun h=>qMy h1 h
 have hp:=fun h3 hp=>qFj h1 h3 hp
 clear h1
 have hkind:=hd.ok.ok.kind
 have hname:=hd.ok.ok.name
 have hplate:=hd.ok.ok.plate
 obtain⟨dk,dn,dnm,dpl,drs,dcs⟩:=d
 simp only [] at hkind hname hplate hput hskip hS ht hp
 refine⟨_,⟨by omega,(De.mk dk dn dnm dpl drs dcs).cells,hcell,rfl⟩,?_⟩
 refine QAD (fun q2=>?_) (fun q2=>?_)
 ·have q2:dk=2:=q2
  have hM:=hput (ht (.inl q2)) (hname (.inl q2))
  rw [if_pos (.inl q2),qCH,if_pos q2] at hS
  subst q2
  refine⟨_,rfl,?_⟩
  refine⟨by show 0+1<=1;omega,[Sy.cells (Sy.mk dnm 2 [] 0 dn)],rfl,?_⟩
  refine⟨by show 0+cur.length<=(cur.map Sy.cells).length;simp,cur.map Sy.cells,qAD (by simp),by show(cur.length+1) * 56<=140737488355328;omega,(cur++[(Sy.mk dnm 2 [] 0 dn)]).map Sy.cells,by rw [List.map_append];rfl,?_⟩
  refine⟨_,w6z,?_⟩
  exact⟨(k+1,qJA es dnm (i64 dn),cur++[(Sy.mk dnm 2 [] 0 dn)]),⟨by show k+1<=ds.length;omega,hM,by rw [hS]⟩,qAA [] [(2,5)] [] rfl ⟨sk,congrArg (fun j:Nat=>AV.sl 5 5 0 j) (qAN cur (Sy.mk dnm 2 [] 0 dn)).symm,rfl,rfl,rfl,trivial⟩ (sk) rfl,by show ds.length - (k+1)<ds.length - k;omega⟩
 have q2:¬ dk=2:=q2
 have hM:=hskip q2
 refine QAD (fun q3=>?_) (fun q3=>?_)
 ·have q3:dk=3:=q3
  rw [if_pos (.inr (.inl q3)),qCH,if_neg q2] at hS
  by_cases h0:dpl=[]
  ·simp only [if_pos h0] at hS
   have hf:qBF es dpl=some (i64 1):=by rw [h0];exact k2.one
   refine⟨_, .inl ⟨_,hf,rfl⟩,?_⟩
   refine⟨by show 0+1<=1;omega,[Sy.cells (Sy.mk dnm dk dpl dn 1)],rfl,?_⟩
   refine⟨by show 0+cur.length<=(cur.map Sy.cells).length;simp,cur.map Sy.cells,qAD (by simp),by show(cur.length+1) * 56<=140737488355328;omega,(cur++[(Sy.mk dnm dk dpl dn 1)]).map Sy.cells,by rw [List.map_append];rfl,?_⟩
   refine⟨_,w6z,?_⟩
   exact⟨(k+1,es,cur++[(Sy.mk dnm dk dpl dn 1)]),⟨by show k+1<=ds.length;omega,hM,by rw [hS]⟩,qAA [] [(2,5)] [] rfl ⟨sk,congrArg (fun j:Nat=>AV.sl 5 5 0 j) (qAN cur (Sy.mk dnm dk dpl dn 1)).symm,rfl,rfl,rfl,trivial⟩ (sk) rfl,by show ds.length - (k+1)<ds.length - k;omega⟩
  ·simp only [if_neg h0] at hS
   obtain⟨t,ht1,ht2⟩:=hp q3 h0
   have hf:=k2.plate dpl h0 t ht1 ht2
   rw [qBT,ht1] at hS
   simp only [if_pos ht2] at hS
   refine⟨_, .inl ⟨_,hf,rfl⟩,?_⟩
   refine⟨by show 0+1<=1;omega,[Sy.cells (Sy.mk dnm dk dpl dn t.n)],rfl,?_⟩
   refine⟨by show 0+cur.length<=(cur.map Sy.cells).length;simp,cur.map Sy.cells,qAD (by simp),by show(cur.length+1) * 56<=140737488355328;omega,(cur++[(Sy.mk dnm dk dpl dn t.n)]).map Sy.cells,by rw [List.map_append];rfl,?_⟩
   refine⟨_,w6z,?_⟩
   exact⟨(k+1,es,cur++[(Sy.mk dnm dk dpl dn t.n)]),⟨by show k+1<=ds.length;omega,hM,by rw [hS]⟩,qAA [] [(2,5)] [] rfl ⟨sk,congrArg (fun j:Nat=>AV.sl 5 5 0 j) (qAN cur (Sy.mk dnm dk dpl dn t.n)).symm,rfl,rfl,rfl,trivial⟩ (sk) rfl,by show ds.length - (k+1)<ds.length - k;omega⟩
 have q3:¬ dk=3:=q3
 refine QAD (fun q4=>?_) (fun q4=>?_)
 ·have q4:dk=4:=q4
  rw [if_pos (.inr (.inr q4)),qCH,if_neg q2] at hS
  have h0:=hplate q3
  simp only [if_pos h0] at hS
  have hf:qBF es dpl=some (i64 1):=by rw [h0];exact k2.one
  refine⟨_, .inl ⟨_,hf,rfl⟩,?_⟩
  refine⟨by show 0+1<=1;omega,[Sy.cells (Sy.mk dnm dk dpl dn 1)],rfl,?_⟩
  refine⟨by show 0+cur.length<=(cur.map Sy.cells).length;simp,cur.map Sy.cells,qAD (by simp),by show(cur.length+1) * 56<=140737488355328;omega,(cur++[(Sy.mk dnm dk dpl dn 1)]).map Sy.cells,by rw [List.map_append];rfl,?_⟩
  refine⟨_,w6z,?_⟩
  exact⟨(k+1,es,cur++[(Sy.mk dnm dk dpl dn 1)]),⟨by show k+1<=ds.length;omega,hM,by rw [hS]⟩,qAA [] [(2,5)] [] rfl ⟨sk,congrArg (fun j:Nat=>AV.sl 5 5 0 j) (qAN cur (Sy.mk dnm dk dpl dn 1)).symm,rfl,rfl,rfl,trivial⟩ (sk) rfl,by show ds.length - (k+1)<ds.length - k;omega⟩
 ·have q4:¬ dk=4:=q4
  rw [if_neg (by omega),List.append_nil] at hS
  refine⟨_,w6z,?_⟩
  exact⟨(k+1,es,cur),⟨by show k+1<=ds.length;omega,hM,by rw [hS]⟩,qAA [] [] [] rfl (sk) (sk) rfl,by show ds.length - (k+1)<ds.length - k;omega⟩
abbrev qXT:TypeId:=70
def zsO:AObj:=⟨qXT,false, .bx [.p (.str []), .p (i64 0), .p (.str []), .p (i64 0), .p (i64 0)]⟩
def fnd (l:List De) (nm:List UInt8):Option Sy:=if nm=[] then none else(qBz l nm).map fun i=>qCH (l.take i) (l.getD i de0)
def qQH (l:List De) (nm:List UInt8):List PV:=match fnd l nm with
 | some s=>[.agg s.cells, .bool true]
 | none=>[.agg [.str [],i64 0, .str [],i64 0,i64 0], .bool false]
theorem qGX {l:List De} {nm:List UInt8} {d:De} (hn:nm ≠ []) (h:qCR l nm=some d):∃ a,fnd l nm=some (qCH a d):=by
 rw [qCR] at h
 rw [fnd,if_neg hn]
 cases hi:qBz l nm with
 | none=>rw [hi] at h;cases h
 | some i=>
  rw [hi] at h
  injection h with h
  exact⟨l.take i,by rw [<- h];rfl⟩
theorem qGY {l:List De} {nm:List UInt8} (h:qCR l nm=none):fnd l nm=none:=by
 rw [qCR] at h
 rw [fnd]
 cases hi:qBz l nm with
 | none=>split <;> rfl
 | some i=>rw [hi] at h;cases h
theorem qMg {l:List De} {nm:List UInt8} (hn:nm ≠ []) (h:Pure cx 34 [des l, .str nm] (·=.ret (qQH l nm))):Pure cx 61 [des l, .str nm] (·=.ret [i64 (qBT l nm)]):=by
 rw [qQH] at h
 cases hv:qCR l nm with
 | none=>
  have hs:qBT l nm=0:=by rw [qBT,hv]
  rw [hs]
  rw [qGY hv] at h
  refine qAB Tryz.func61 rfl rfl rfl ?_
  refine h.eq rfl ?_
  exact qAF _ rfl rfl rfl
 | some d=>
  obtain⟨a,ha⟩:=qGX hn hv
  have hs:qBT l nm=if d.kind=2 then d.n else 0:=by rw [qBT,hv]
  rw [hs]
  rw [ha,qCH] at h
  by_cases k2:d.kind=2
  ·rw [if_pos k2]
   rw [if_pos k2] at h
   refine qAB Tryz.func61 rfl rfl rfl ?_
   refine h.eq rfl ?_
   refine And.intro (fun _=>?_) (fun h=>absurd rfl h)
   exact qAF _ rfl rfl rfl
  ·rw [if_neg k2]
   rw [if_neg k2] at h
   refine qAB Tryz.func61 rfl rfl rfl ?_
   refine h.eq rfl ?_
   refine And.intro (fun h=>absurd (show d.kind=2 from h) k2) (fun _=>?_)
   exact qAF _ rfl rfl rfl
abbrev qXH:OT:=(.pure 0 (.pure 1 (.pure 2 (.eff 3 [1] (.pure 4 (.eff 5 [] .fin .nil)) .nil))))
abbrev qWC:OT:=(.pure 0 (.pure 1 (.pure 2 (.pure 3 (.pure 4 (.eff 5 [] (.pure 6 (.eff 7 [] .fin .nil)) .nil))))))
theorem qKd:∀ (n:Nat) (l:List De) (nm:List UInt8),l.length<=n->l.length<=1000->(∀ d∈l,OkD d)->Pure cx 34 [des l, .str nm] (·=.ret (qQH l nm))
 | n,l,nm,hn,hl,hok=>by
  have IH:∀ m,m<l.length->∀ p,p ≠ []->Pure cx 61 [des (l.take m), .str p] (·=.ret [i64 (qBT (l.take m) p)]):=fun m hm p hp=>by
   match n,hn with
   | 0,hn=>omega
   | n+1,hn=>exact qMg hp (qKd n (l.take m) p (by rw [List.length_take];omega) (by rw [List.length_take];omega) fun d hd=>hok d (List.mem_of_mem_take hd))
  have hm:(l.map De.cells).length=l.length:=List.length_map ..
  refine qAB Tryz.func34 rfl rfl rfl ?_
  refine⟨Nat,fun k=>[(0, .p (des l)),(1, .p (.str nm)),(4, .ptr 0 0 0),(6, .p (i64 k))],fun _=>⟨1,[(0,zsO)]⟩,fun k=>k<=l.length/\∀ x∈l.take k,¬ (x.name=nm/\¬ nm=[]),fun k=>l.length - k,?_,?_⟩
  ·exact⟨0,⟨Nat.zero_le _,by simp⟩,qAA [] [] [] rfl (sk) (sk) rfl⟩
  rintro k ⟨k1,k2⟩
  refine QAD (fun m1=>?_) (fun m1=>?_)
  rotate_left
  ·have m1:¬ (k:Int)<((l.map De.cells).length:Nat):=m1
   rw [hm] at m1
   rw [qAc (by omega)] at k2
   have hR:fnd l nm=none:=by
    rw [fnd]
    split
    ·rfl
    ·rename_i h0
     rw [qKc.2 fun x hx e=>k2 x hx ⟨e,h0⟩];rfl
   exact qFt (.agg [.str [],i64 0, .str [],i64 0,i64 0]) (.bool false) rfl rfl rfl (by rw [qQH,hR])
  have m1:(k:Int)<((l.map De.cells).length:Nat):=m1
  rw [hm] at m1
  have hk:k<l.length:=by omega
  have hcell:=qDm hk
  have ho:=hok _ (qAI de0 hk)
  have hF:∀ nm',(l.getD k de0).name=nm'->nm'=nm->¬ nm=[]->qQH l nm=[.agg (qCH (l.take k) (l.getD k de0)).cells, .bool true]:=fun nm' e1 e2 h0=>by
   have hi:qBz l nm=some k:=by
    have ht:l=l.take k++(l.getD k de0::l.drop (k+1)):=by rw [<- qBt de0 hk,List.take_append_drop]
    have hz:qBz (l.take k) nm=none:=qKc.2 fun x hx e=>k2 x hx ⟨e,h0⟩
    rw [ht,qGW,hz]
    show(qBz (l.getD k de0::l.drop (k+1)) nm).map (·+(l.take k).length)=some k
    rw [qBz,if_pos (e1.trans e2),List.length_take]
    show some (0+min k l.length)=some k
    rw [Nat.zero_add,Nat.min_eq_left (by omega)]
   rw [qQH,fnd,if_neg h0,hi];rfl
  have hnx:(¬ ((l.getD k de0).name=nm/\¬ nm=[]))->∀ x∈l.take (k+1),¬ (x.name=nm/\¬ nm=[]):=fun hx x hxm=>by
   rw [qAE de0 hk] at hxm
   rcases List.mem_append.1 hxm with hxm | hxm
   ·exact k2 x hxm
   ·rw [List.mem_singleton.1 hxm];exact hx
  have ih:=IH k hk
  generalize l.getD k de0=d at hcell ho hF hnx
  obtain⟨dk,dn,dnm,dpl,drs,dcs⟩:=d
  have hkind:=ho.kind
  have hbare:=ho.bare
  have hname:=ho.name
  have hplate:=ho.plate
  simp only [] at hkind hbare hname hplate hF hnx
  refine⟨_,⟨by omega,(De.mk dk dn dnm dpl drs dcs).cells,hcell,rfl⟩,?_⟩
  refine And.intro (fun e1=>?_) (fun e1=>?_)
  rotate_left
  ·have e1:¬ dnm=nm:=e1
   refine⟨_,w6z,?_⟩
   exact⟨k+1,⟨by omega,hnx fun h=>e1 h.1⟩,qAA [] [] [] rfl (sk) (sk) rfl,by show l.length - (k+1)<l.length - k;omega⟩
  have e1:dnm=nm:=e1
  rcases hkind with rfl | rfl | rfl | rfl | rfl
  ·refine And.intro (fun h=>absurd (show(1:Int)=2 from h) (by decide)) (fun _=>?_)
   refine And.intro (fun h=>absurd (show(1:Int)=3 from h) (by decide)) (fun _=>?_)
   refine And.intro (fun h=>absurd (show(1:Int)=4 from h) (by decide)) (fun _=>?_)
   refine⟨_,w6z,?_⟩
   exact⟨k+1,⟨by omega,hnx fun h=>h.2 (e1.symm.trans (hbare (.inl rfl)))⟩,qAA [] [] [] rfl (sk) (sk) rfl,by show l.length - (k+1)<l.length - k;omega⟩
  ·have h0:¬ nm=[]:=fun e=>hname (.inl rfl) (e1.trans e)
   have hR:=hF dnm rfl e1 h0
   rw [qCH,if_pos rfl] at hR
   have hp:=hplate (by decide)
   subst e1
   subst hp
   refine And.intro (fun _=>?_) (fun h=>absurd rfl h)
   refine And.intro (fun _=>?_) (fun h=>absurd rfl h)
   refine qAG qXH (by kernel_rfl) ?_
   refine⟨sk,?_⟩
   exact qFt (.agg (Sy.cells (Sy.mk dnm 2 [] 0 dn))) (.bool true) rfl rfl rfl (by rw [hR])
  ·have h0:¬ nm=[]:=fun e=>hname (.inr (.inl rfl)) (e1.trans e)
   have hR:=hF dnm rfl e1 h0
   rw [qCH,if_neg (show ¬ (3:Int)=2 by decide)] at hR
   subst e1
   refine And.intro (fun h=>absurd (show(3:Int)=2 from h) (by decide)) (fun _=>?_)
   refine And.intro (fun _=>?_) (fun h=>absurd rfl h)
   refine And.intro (fun h=>absurd (show(3:Int)=2 from h) (by decide)) (fun _=>?_)
   refine And.intro (fun p0=>?_) (fun p0=>?_)
   ·have p0:dpl=[]:=p0
    simp only [if_pos p0] at hR
    exact qFt (.agg (Sy.cells (Sy.mk dnm 3 dpl dn 1))) (.bool true) rfl rfl rfl (by rw [hR])
   ·have p0:¬ dpl=[]:=p0
    simp only [if_neg p0] at hR
    have hS:=ih dpl p0
    have ea:[des (l.take k),PV.str dpl]=[PV.lsts 6 ((l.map De.cells).take ((k:Nat):Int).toNat), .str dpl]:=by show [PV.lsts 6 ((l.take k).map De.cells),_]=_;rw [List.map_take];rfl
    rw [ea] at hS
    generalize qBT (l.take k) dpl=sz at hS hR
    refine qAG qWC (by kernel_rfl) ?_
    refine⟨by show(0:Int)<=(k:Nat)/\((k:Nat):Int)<=((l.map De.cells).length:Nat);rw [hm];omega,?_⟩
    refine hS.eq rfl ?_
    exact qFt (.agg (Sy.cells (Sy.mk dnm 3 dpl dn sz))) (.bool true) rfl rfl rfl (by rw [hR])
  ·have h0:¬ nm=[]:=fun e=>hname (.inr (.inr rfl)) (e1.trans e)
   have hR:=hF dnm rfl e1 h0
   have hp:=hplate (by decide)
   rw [qCH,if_neg (show ¬ (4:Int)=2 by decide)] at hR
   simp only [if_pos hp] at hR
   subst e1
   refine And.intro (fun h=>absurd (show(4:Int)=2 from h) (by decide)) (fun _=>?_)
   refine And.intro (fun h=>absurd (show(4:Int)=3 from h) (by decide)) (fun _=>?_)
   refine And.intro (fun _=>?_) (fun h=>absurd rfl h)
   refine And.intro (fun h=>absurd (show(4:Int)=2 from h) (by decide)) (fun _=>?_)
   refine And.intro (fun _=>?_) (fun h=>absurd hp h)
   exact qFt (.agg (Sy.cells (Sy.mk dnm 4 dpl dn 1))) (.bool true) rfl rfl rfl (by rw [hR])
  ·refine And.intro (fun h=>absurd (show(5:Int)=2 from h) (by decide)) (fun _=>?_)
   refine And.intro (fun h=>absurd (show(5:Int)=3 from h) (by decide)) (fun _=>?_)
   refine And.intro (fun h=>absurd (show(5:Int)=4 from h) (by decide)) (fun _=>?_)
   refine⟨_,w6z,?_⟩
   exact⟨k+1,⟨by omega,hnx fun h=>h.2 (e1.symm.trans (hbare (.inr rfl)))⟩,qAA [] [] [] rfl (sk) (sk) rfl,by show l.length - (k+1)<l.length - k;omega⟩
theorem qHM (l:List De) (nm:List UInt8) (hl:l.length<=1000) (hok:∀ d∈l,OkD d):Pure cx 34 [des l, .str nm] (·=.ret (qQH l nm)):=qKd _ l nm (Nat.le_refl _) hl hok
theorem qLR (l:List De) {nm:List UInt8} (hn:nm ≠ []) (hl:l.length<=1000) (hok:∀ d∈l,OkD d):Pure cx 61 [des l, .str nm] (·=.ret [i64 (qBT l nm)]):=qMg hn (qHM l nm hl hok)
theorem qUc (d:De) (r:Rf):Pure cx 145 [d.pv,r.pv] (·=.ret [.bool (ownB d r)]):=by
 obtain⟨R,hR⟩:∃ R,R=ownB d r:=⟨_,rfl⟩
 rw [<- hR]
 rw [ownB] at hR
 refine qAB Tryz.func145 rfl rfl rfl ?_
 refine QAD (fun h1=>?_) (fun h1=>?_)
 rotate_left
 ·have h1:¬ d.kind=3:=h1
  exact qAF _ rfl rfl (qAO (by rw [hR,decide_eq_false h1];rfl))
 have h1:d.kind=3:=h1
 rw [decide_eq_true h1] at hR
 refine QAD (fun h2=>?_) (fun h2=>?_)
 ·have h2:d.plate=[]:=h2
  exact qAF _ rfl rfl (qAO (by rw [hR,decide_eq_false (show ¬ ¬ d.plate=[] from fun h=>h h2)];rfl))
 have h2:¬ d.plate=[]:=h2
 rw [decide_eq_true h2] at hR
 refine QAD (fun h3=>?_) (fun h3=>?_)
 rotate_left
 ·have h3:¬ r.name=d.name:=h3
  exact qAF _ rfl rfl (qAO (by rw [hR,decide_eq_false h3];rfl))
 have h3:r.name=d.name:=h3
 rw [decide_eq_true h3] at hR
 refine QAD (fun h4=>?_) (fun h4=>?_)
 rotate_left
 ·have h4:¬ r.mode=1:=h4
  exact qAF _ rfl rfl (qAO (by rw [hR,decide_eq_false h4];rfl))
 have h4:r.mode=1:=h4
 rw [decide_eq_true h4] at hR
 refine QAD (fun h5=>?_) (fun h5=>?_)
 rotate_left
 ·have h5:¬ r.plate=d.plate:=h5
  exact qAF _ rfl rfl (qAO (by rw [hR,decide_eq_false h5];rfl))
 have h5:r.plate=d.plate:=h5
 rw [decide_eq_true h5] at hR
 refine QAD (fun h6=>?_) (fun h6=>?_)
 ·have h6:1<=r.n:=h6
  exact qAF _ rfl rfl (qAO (by rw [hR,decide_eq_true h6];rfl))
 ·have h6:¬ 1<=r.n:=h6
  exact qAF _ rfl rfl (qAO (by rw [hR,decide_eq_false h6];rfl))
def skS (l:List De) (d:De) (r:Rf):Option Sy:=match fnd l r.name with
 | some s=>some s
 | none=>if ownB d r then some ⟨d.name,d.kind,d.plate,d.n,qBT l d.plate⟩ else none
def skV (o:Option Sy):List PV:=match o with
 | some s=>[.agg s.cells, .bool true]
 | none=>[.agg [.str [],i64 0, .str [],i64 0,i64 0], .bool false]
abbrev qXF:OT:=(.pure 0 (.pure 1 (.pure 2 (.pure 3 (.pure 4 (.pure 5 (.pure 6 (.pure 7 (.pure 8 (.pure 9 (.pure 10 (.eff 11 [7,5,3,1] (.pure 12 (.eff 13 [] (.pure 14 .fin) .nil)) .nil))))))))))))
theorem qPH (l:List De) (d:De) (r:Rf) (hl:l.length<=1000) (hok:∀ d∈l,OkD d):Pure cx 120 [des l,d.pv,r.pv] (·=.ret (skV (skS l d r))):=by
 have hF:=qHM l r.name hl hok
 have hO:=qUc d r
 rw [qQH] at hF
 rw [skS]
 cases hf:fnd l r.name with
 | some s=>
  rw [hf] at hF
  simp only [] at hF
  show Pure cx _ _ (·=.ret [.agg s.cells, .bool true])
  obtain⟨s1,s2,s3,s4,s5⟩:=s
  obtain⟨dk,dn,dnm,dpl,drs,dcs⟩:=d
  refine qAB Tryz.func120 rfl rfl rfl ?_
  refine hF.eq rfl ?_
  exact qFt (.agg (Sy.cells ⟨s1,s2,s3,s4,s5⟩)) (.bool true) rfl rfl rfl rfl
 | none=>
  rw [hf] at hF
  simp only [] at hF
  by_cases ho:ownB d r=true
  ·rw [ho] at hO
   have hp:=(qEj.1 ho).2.1
   have hS:=qLR l hp hl hok
   simp only [if_pos ho,skV]
   generalize qBT l d.plate=sz at hS
   obtain⟨dk,dn,dnm,dpl,drs,dcs⟩:=d
   refine qAB Tryz.func120 rfl rfl rfl ?_
   refine hF.eq rfl ?_
   refine hO.eq rfl ?_
   refine qAG qXF (by kernel_rfl) ?_
   refine hS.eq rfl ?_
   refine⟨sk,?_⟩
   exact qFt (.agg (Sy.cells ⟨dnm,dk,dpl,dn,sz⟩)) (.bool true) rfl rfl rfl rfl
  ·simp only [if_neg ho,skV]
   rw [Bool.not_eq_true] at ho
   rw [ho] at hO
   obtain⟨dk,dn,dnm,dpl,drs,dcs⟩:=d
   refine qAB Tryz.func120 rfl rfl rfl ?_
   refine hF.eq rfl ?_
   refine hO.eq rfl ?_
   exact qFt (.agg [.str [],i64 0, .str [],i64 0,i64 0]) (.bool false) rfl rfl rfl rfl
abbrev qWA:OT:=(.pure 0 (.pure 1 (.pure 2 (.pure 3 (.pure 4 (.eff 5 [1] (.pure 6 .fin) .nil))))))
theorem qIy (l:List De) (d:De) (r:Rf) (hn:r.name ≠ []) (hl:l.length<=1000) (hok:∀ d∈l,OkD d):Pure cx 93 [des l,d.pv,r.pv] (·=.ret [i64 (qF9 l d r)]):=by
 have hK:=qPH l d r hl hok
 obtain⟨R,hR⟩:∃ R,R=qF9 l d r:=⟨_,rfl⟩
 rw [<- hR]
 rw [qF9] at hR
 rw [skS] at hK
 cases hv:qCR l r.name with
 | none=>
  rw [qGY hv] at hK
  rw [hv] at hR
  simp only [] at hR hK
  by_cases ho:ownB d r=true
  ·rw [if_pos ho] at hR hK
   obtain⟨o1,o2,o3⟩:=qEj.1 ho
   have o4:r.mode=1:=by rw [o3]
   have o5:r.plate=d.plate:=by rw [o3]
   generalize qBT l d.plate=sz at hK
   rw [skV] at hK
   try simp only [] at hK
   obtain⟨dk,dn,dnm,dpl,drs,dcs⟩:=d
   obtain⟨rn,rm,rp,ri⟩:=r
   simp only [] at o1 o2 o4 o5
   subst o1
   subst o4
   refine qAB Tryz.func93 rfl rfl rfl ?_
   refine hK.eq rfl ?_
   refine And.intro (fun h=>absurd (show(3:Int)=2 from h) (by decide)) (fun _=>?_)
   refine And.intro (fun h=>absurd h o2) (fun _=>?_)
   refine And.intro (fun h=>absurd (show(1:Int)=0 from h) (by decide)) (fun _=>?_)
   refine And.intro (fun h=>absurd (show(1:Int)=2 from h) (by decide)) (fun _=>?_)
   refine And.intro (fun _=>?_) (fun h=>absurd rfl h)
   refine And.intro (fun _=>?_) (fun h=>absurd rfl h)
   refine And.intro (fun _=>?_) (fun h=>absurd rfl h)
   refine And.intro (fun _=>?_) (fun h=>absurd o5 h)
   exact qAF _ rfl rfl (qBD hR.symm)
  ·rw [if_neg ho] at hR hK
   rw [skV] at hK
   try simp only [] at hK
   obtain⟨dk,dn,dnm,dpl,drs,dcs⟩:=d
   refine qAB Tryz.func93 rfl rfl rfl ?_
   refine hK.eq rfl ?_
   exact qAF _ rfl rfl (qBD hR.symm)
 | some t=>
  obtain⟨a,ha⟩:=qGX hn hv
  have ht:=hok t (qJV hv).1
  rw [ha] at hK
  rw [hv] at hR
  simp only [] at hR hK
  rw [skV,qCH] at hK
  rw [qPa] at hR
  by_cases k2:t.kind=2
  ·rw [if_pos k2] at hK
   simp only [if_pos k2] at hR
   try simp only [] at hK
   obtain⟨dk,dn,dnm,dpl,drs,dcs⟩:=d
   refine qAB Tryz.func93 rfl rfl rfl ?_
   refine hK.eq rfl ?_
   refine And.intro (fun _=>?_) (fun h=>absurd rfl h)
   exact qAF _ rfl rfl (qBD hR.symm)
  have hS:=fun hp=>qLR l (nm:=t.plate) hp hl hok
  rw [if_neg k2] at hK
  simp only [if_neg k2] at hR
  try simp only [] at hK
  generalize (if t.plate=[] then 1 else qBT a t.plate)=sz at hK
  obtain⟨dk,dn,dnm,dpl,drs,dcs⟩:=d
  obtain⟨rn,rm,rp,ri⟩:=r
  obtain⟨tk,tn,tnm,tpl,trs,tcs⟩:=t
  simp only [] at hR hK k2 hS
  clear hv ha ht
  refine qAB Tryz.func93 rfl rfl rfl ?_
  refine hK.eq rfl ?_
  refine And.intro (fun h=>absurd h k2) (fun _=>?_)
  refine QAD (fun p0=>?_) (fun p0=>?_)
  ·have p0:tpl=[]:=p0
   rw [if_pos p0] at hR
   refine QAD (fun m0=>?_) (fun m0=>?_)
   ·have m0:rm=0:=m0
    rw [decide_eq_false (show ¬ ¬ rm=0 from fun h=>h m0)] at hR
    exact qAF _ rfl rfl (qBD hR.symm)
   ·have m0:¬ rm=0:=m0
    rw [decide_eq_true m0] at hR
    exact qAF _ rfl rfl (qBD hR.symm)
  have p0:¬ tpl=[]:=p0
  rw [if_neg p0] at hR
  refine QAD (fun m0=>?_) (fun m0=>?_)
  ·have m0:rm=0:=m0
   rw [if_pos m0] at hR
   exact qAF _ rfl rfl (qBD hR.symm)
  have m0:¬ rm=0:=m0
  rw [if_neg m0] at hR
  refine QAD (fun m2=>?_) (fun m2=>?_)
  ·have m2:rm=2:=m2
   rw [if_pos m2] at hR
   refine qAG qWA (by kernel_rfl) ?_
   refine(hS p0).eq rfl ?_
   refine⟨sk,?_⟩
   refine QAD (fun g1=>?_) (fun g1=>?_)
   ·have g1:qBT l tpl<=ri:=g1
    rw [decide_eq_true g1] at hR
    exact qAF _ rfl rfl (qBD hR.symm)
   ·have g1:¬ qBT l tpl<=ri:=g1
    rw [decide_eq_false g1] at hR
    exact qAF _ rfl rfl (qBD hR.symm)
  have m2:¬ rm=2:=m2
  rw [if_neg m2] at hR
  refine QAD (fun m1=>?_) (fun m1=>?_)
  ·have m1:rm=1:=m1
   rw [if_pos m1] at hR
   refine QAD (fun q1=>?_) (fun q1=>?_)
   rotate_left
   ·have q1:¬ dk=3:=q1
    rw [decide_eq_true (show ¬ (dk=3/\dpl=tpl/\rp=tpl) from fun h=>q1 h.1)] at hR
    exact qAF _ rfl rfl (qBD hR.symm)
   have q1:dk=3:=q1
   refine QAD (fun q2=>?_) (fun q2=>?_)
   rotate_left
   ·have q2:¬ dpl=tpl:=q2
    rw [decide_eq_true (show ¬ (dk=3/\dpl=tpl/\rp=tpl) from fun h=>q2 h.2.1)] at hR
    exact qAF _ rfl rfl (qBD hR.symm)
   have q2:dpl=tpl:=q2
   refine QAD (fun q3=>?_) (fun q3=>?_)
   ·have q3:rp=tpl:=q3
    rw [decide_eq_false (show ¬ ¬ (dk=3/\dpl=tpl/\rp=tpl) from fun h=>h ⟨q1,q2,q3⟩)] at hR
    exact qAF _ rfl rfl (qBD hR.symm)
   ·have q3:¬ rp=tpl:=q3
    rw [decide_eq_true (show ¬ (dk=3/\dpl=tpl/\rp=tpl) from fun h=>q3 h.2.2)] at hR
    exact qAF _ rfl rfl (qBD hR.symm)
  ·have m1:¬ rm=1:=m1
   rw [if_neg m1] at hR
   exact qAF _ rfl rfl (qBD hR.symm)
end Go.Proofs.YtmepdfingcmkmaaGreatDoor
