/- Part 7 of the proof: Kv Kw Kx Ky Ga Ja Jb Jc Jd Je Jf Jg Ua Ub Uc Ud Ue Uf Ug Uh Ui Lo Lp Lq Lr Lv Lw Pa Pb Oa Ob Oc Od Oe Of Og Ra Uj Uk Ul Um Dd Df Dg De Dh Dj Dk Dl Fa -/
import Derived.Test.YtkegmchjobphdaaGreatDoorQ6
namespace Go.Proofs.YtkegmchjobphdaaGreatDoor
open Go Y
set_option maxRecDepth 100000
set_option maxHeartbeats 40000000
theorem Ng (n:Int):Pure cx 123 [i64 n] (·=.ret [.bool (DW n)]):=by
 refine pure_of_vc Tryz.func123 rfl rfl rfl ?_
 exact MCZ
theorem aHN (r:Rf) (hr:Us r):Pure cx 174 [r.pv] (·=.ret [.bool (CU r)]):=by
 refine pure_of_vc Tryz.func174 rfl rfl rfl ?_
 have hN:=XV r.name hr.name
 by_cases n1:Bb r.name=true
 rotate_left
 ·exact MG4
 rw [n1] at hN
 refine hN.eq rfl ?_
 have hP:=XV r.Ae hr.Ae
 have hA:=Ng r.n
 exact MB9
theorem aKG (op n rel val:Int) (r:Rf) (st:List Int) (ar:List Cd) (hr:Us r) (hs:st.length<=9223372036854775807):Pure cx 215 [(Cd.mk op n rel val r st ar).pv] (·=.ret [.bool (Av op n rel val r st)]):=by
 refine pure_of_vc Tryz.func215 rfl rfl rfl ?_
 have Gn:=aHN r hr
 have NJ:=Ng n
 have hNv:=Ng val
 have hm:(st.map i64).length=st.length:=qB ..
 refine qA (fun o1=>?_) (fun o1=>?_)
 ·have o1:op=1:=o1
  exact MAy
 have o1:¬ op=1:=o1
 refine qA (fun o2=>?_) (fun o2=>?_)
 ·have o2:op=2:=o2
  exact MAy
 have o2:¬ op=2:=o2
 refine qA (fun o3=>?_) (fun o3=>?_)
 ·have o3:op=3:=o3
  exact MAy
 have o3:¬ op=3:=o3
 refine qA (fun o4=>?_) (fun o4=>?_)
 ·have o4:op=4:=o4
  exact MAy
 have o4:¬ op=4:=o4
 refine qA (fun o5=>?_) (fun o5=>?_)
 rotate_left
 ·have o5:¬ op=5:=o5
  refine qA (fun o6=>?_) (fun o6=>?_)
  rotate_left
  ·have o6:¬ op=6:=o6
   exact MW
  have o6:op=6:=o6
  by_cases r1:CU r=true
  rotate_left
  ·exact MK4
  rw [r1] at Gn
  refine Gn.eq rfl ?_
  refine qA (fun r2=>?_) (fun r2=>?_)
  rotate_left
  ·have r2:¬ r.mode=3:=r2
   exact MW
  have r2:r.mode=3:=r2
  by_cases r3:DW val=true
  rotate_left
  ·rw [qQ] at r3
   rw [r3] at hNv
   refine hNv.eq rfl ?_
   exact MW
  rw [r3] at hNv
  refine hNv.eq rfl ?_
  by_cases r4:DW n=true
  rotate_left
  ·rw [qQ] at r4
   rw [r4] at NJ
   refine NJ.eq rfl ?_
   exact MW
  rw [r4] at NJ
  refine NJ.eq rfl ?_
  refine qA (fun r5=>?_) (fun r5=>?_)
  rotate_left
  ·have r5:¬ (1:Int)<=rel:=r5
   exact MW
  have r5:(1:Int)<=rel:=r5
  refine qA (fun r6=>?_) (fun r6=>?_)
  rotate_left
  ·have r6:¬ rel<=4:=r6
   exact MW
  have r6:rel<=4:=r6
  refine qA (fun r9=>?_) (fun r9=>?_)
  rotate_left
  ·have r9:¬ ((st.map i64).length:Int)=0:=r9
   have r9:¬ st=[]:=fun e=>r9 MFT
   exact MW
  have r9:((st.map i64).length:Int)=0:=r9
  have r9:st=[]:=by rw [qB] at r9;exact qf.1 ME
  exact MW
 have o5:op=5:=o5
 have Bt:KW st=false->Av op n rel val r st=false:=fun h=>by simp [Av, *]
 refine qA (fun h1=>?_) (fun h1=>?_)
 ·have h1:((st.map i64).length:Int)<1:=h1
  rw [hm] at h1
  exact AL _ rfl rfl (Af (Bt (by rw [KW,qF ME];rfl)).symm)
 have h1:¬ ((st.map i64).length:Int)<1:=h1
 rw [hm] at h1
 refine qA (fun h2=>?_) (fun h2=>?_)
 ·have h2:(8:Int)<((st.map i64).length:Nat):=h2
  rw [hm] at h2
  exact AL _ rfl rfl (Af (Bt (by rw [KW,qF (show ¬ st.length<=8 by omega),kH];rfl)).symm)
 have h2:¬ (8:Int)<((st.map i64).length:Nat):=h2
 rw [hm] at h2
 have hB0:KW st=Wm st (st.length - 0) 0:=by rw [KW,qE (show 1<=st.length by omega),qE (show st.length<=8 by omega)];rfl
 refine⟨Nat,fun k=>[(1, .ptr 0 0 0),(3, .p (i64 k))],fun _=>⟨1,[(0,cO ((Cd.mk op n rel val r st ar).cells.map .p))]⟩,fun k=>k<=st.length/\KW st=Wm st (st.length - k) k,fun k=>st.length - k,?_,?_⟩
 ·exact⟨0,⟨qL _,hB0⟩,AA [] [] [] rfl (sk) (sk) rfl⟩
 rintro k ⟨k1,k2⟩
 clear hB0
 refine qA (fun h3=>?_) (fun h3=>?_)
 rotate_left
 ·have h3:¬ (k:Int)<((st.map i64).length:Nat):=h3
  rw [hm] at h3
  rw [show st.length - k=0 by omega,Wm] at k2
  by_cases r1:CU r=true
  rotate_left
  ·exact MK4
  rw [r1] at Gn
  refine Gn.eq rfl ?_
  refine qA (fun r2=>?_) (fun r2=>?_)
  rotate_left
  ·have r2:¬ n=0:=r2
   exact MW
  have r2:n=0:=r2
  refine qA (fun r3=>?_) (fun r3=>?_)
  rotate_left
  ·have r3:¬ rel=0:=r3
   exact MW
  have r3:rel=0:=r3
  refine qA (fun r4=>?_) (fun r4=>?_)
  rotate_left
  ·have r4:¬ val=0:=r4
   exact MW
  have r4:val=0:=r4
  exact MW
 have h3:(k:Int)<((st.map i64).length:Nat):=h3
 rw [hm] at h3
 have hk:k<st.length:=by omega
 obtain⟨f,hf⟩:∃ f,st.length - k=f+1:=⟨st.length - k - 1,by omega⟩
 rw [hf,Wm] at k2
 refine FI.seq rfl ?_
 refine⟨_,⟨by omega,i64 (st.getD k 0),Ff hk,rfl⟩,?_⟩
 have hN:=Ng (st.getD k 0)
 by_cases n1:DW (st.getD k 0)=true
 rotate_left
 ·rw [qQ] at n1
  rw [n1] at hN k2
  refine hN.eq rfl ?_
  exact AL _ rfl rfl (Af (Bt (by rw [k2];simp)).symm)
 rw [n1] at hN k2
 refine hN.eq rfl ?_
 refine qA (fun h4=>?_) (fun h4=>?_)
 ·have h4:(0:Int)<(k:Nat):=h4
  obtain⟨j,rfl⟩:∃ j,k=j+1:=⟨k - 1,by omega⟩
  refine⟨_,⟨by omega,i64 (st.getD (j+1) 0),Ff hk,rfl⟩,?_⟩
  refine⟨(j:Int),MHa,?_⟩
  refine⟨_,⟨by omega,i64 (st.getD j 0),Ff ME,rfl⟩,?_⟩
  refine qA (fun h5=>?_) (fun h5=>?_)
  ·have h5:st.getD (j+1) 0<=st.getD j 0:=h5
   exact AL _ rfl rfl (Af (Bt (by rw [k2,xE,qF (show ¬ st.getD j 0<st.getD (j+1) 0 by omega),qF ME];rfl)).symm)
  ·have h5:¬ st.getD (j+1) 0<=st.getD j 0:=h5
   refine MAs ?_
   exact⟨j+1+1,⟨by omega,by rw [k2,xE,qE (show st.getD j 0<st.getD (j+1) 0 by omega),zC,show st.length - (j+1+1)=f by omega];rfl⟩,AA [] [] [] rfl (sk) (sk) rfl,by show st.length - (j+1+1)<st.length - (j+1);omega⟩
 ·have h4:¬ (0:Int)<(k:Nat):=h4
  have hk0:k=0:=by omega
  subst hk0
  refine MAs ?_
  exact⟨0+1,⟨by omega,by rw [k2,show st.length - (0+1)=f by omega];rfl⟩,AA [] [] [] rfl (sk) (sk) rfl,by show st.length - (0+1)<st.length - 0;omega⟩
def aRE:Option Nat->Int
 | some l=>(l:Int)
 | none=>-1
def aM8 (d:Nat):Prop:=∀ (c:Cd) (left p:Nat),Ht c->left<=1000->p+d=9->Pure cx 180 [c.pv,i64 left,i64 p] (·=.ret [i64 (aRE (BQ d c left))])
theorem aCf {r:Rf} (h4:r.cells=Bu.cells):r=Bu:=by
 exact MFB
theorem aKF (d:Nat) (ih:aM8 d):aM8 (d+1):=by
 rintro⟨op,n,rel,val,r,st,ar⟩ left p hb hl hp9
 simp only [Ht] at hb
 obtain⟨Vw,hb2,hb3,hb4⟩:=hb
 have hT:=aKG op n rel val r st ar Vw hb2
 have epv:(Cd.mk op n rel val r st ar).pv=.agg [i64 op,i64 n,i64 rel,i64 val, .str r.name,i64 r.mode, .str r.Ae,i64 r.n,ints st,cds ar]:=by
  exact MC3
 rw [epv] at hT ⊢
 generalize hR:BQ (d+1) (.mk op n rel val r st ar) left=R
 rw [BQ] at hR
 refine pure_of_vc Tryz.func180 rfl rfl rfl ?_
 rcases kS left with h0 | h0
 ·subst h0
  rw [qM rfl] at hR
  refine And.intro (fun _=>?_) (fun h=>absurd (show(0:Int)<1 from ML) h)
  exact AL _ rfl rfl (Bf (by rw [<- hR];rfl))
 obtain⟨m,rfl⟩:∃ m,left=m+1:=MIb
 rw [qG ME,xE] at hR
 have Bt:Ay op n rel val r st ar.length=false->R=none:=fun h=>by rw [<- hR,qG (by rw [h];decide)]
 have FY:Ay op n rel val r st ar.length=true->ar.foldlM (fun l c=>BQ d c l) m=R:=fun h=>by rw [<- hR,qM h]
 clear hR
 refine And.intro (fun h=>absurd (show((m+1:Nat):Int)<1 from h) ME) (fun _=>?_)
 refine And.intro (fun h=>absurd (show(8:Int)<(p:Nat) from h) ME) (fun _=>?_)
 refine qA (fun o7=>?_) (fun o7=>?_)
 ·have o7:op=7:=o7
  by_cases hk:ar.length=1
  rotate_left
  ·refine MJF ?_
   exact MFc
  refine MJG ?_
  refine And.intro (fun h=>absurd (show(1:Int)=0 from h) ML) (fun _=>?_)
  refine And.intro (fun r1=>?_) (fun r1=>?_)
  rotate_left
  ·have r1:¬ n=0:=r1
   exact Mt
  have r1:n=0:=r1
  refine And.intro (fun r2=>?_) (fun r2=>?_)
  rotate_left
  ·have r2:¬ rel=0:=r2
   exact Mt
  have r2:rel=0:=r2
  refine And.intro (fun r3=>?_) (fun r3=>?_)
  rotate_left
  ·have r3:¬ val=0:=r3
   exact Mt
  have r3:val=0:=r3
  refine⟨⟨MCX,MK⟩,fun r4=>?_,fun r4=>?_⟩
  rotate_left
  ·have r4:¬ r=Bu:=fun e=>r4 MFT
   exact Mt
  have r4:r=Bu:=aCf (by first | exact r4 | (injection r4))
  refine And.intro (fun r5=>?_) (fun r5=>?_)
  rotate_left
  ·have r5:¬ ((st.map i64).length:Int)=0:=r5
   have r5:¬ st=[]:=fun e=>r5 MFT
   exact Mt
  have r5:((st.map i64).length:Int)=0:=r5
  have r5:st=[]:=by rw [qB] at r5;exact qf.1 ME
  have hy:=FY (by simp [Ay,Az,Bo, *])
  refine⟨(m:Int),MEJ,?_⟩
  refine⟨Nat × Nat,fun x=>[(1, .p (i64 x.2)),(2, .p (i64 p)),(3, .ptr 0 0 0),(7, .p (i64 1)),(8, .p (i64 x.1))],fun x=>⟨1,[(0,cO [.p (i64 op), .p (i64 n), .p (i64 rel), .p (i64 val), .p (.str r.name), .p (i64 r.mode), .p (.str r.Ae), .p (i64 r.n), .p (ints st), .p (cds ar)])]⟩,fun x=>x.1<=ar.length/\x.2<=1000/\(ar.drop x.1).foldlM (fun l c=>BQ d c l) x.2=R,fun x=>ar.length - x.1,?_,?_⟩
  ·exact⟨(0,m),⟨qL _,MK8,hy⟩,AA [] [] [] rfl (sk) (sk) rfl⟩
  rintro⟨i,l⟩ ⟨i1,i2,i3⟩
  simp only [] at i1 i2 i3
  refine qA (fun j1=>?_) (fun j1=>?_)
  rotate_left
  ·have j1:¬ (i:Int)<1:=j1
   rw [qb ME,ko] at i3
   exact AL _ rfl rfl (Bf (by rw [<- i3];rfl))
  have j1:(i:Int)<1:=j1
  have hi:i<ar.length:=by omega
  rw [EO Fy hi,kM] at i3
  have Jn:=El hb4 (Aa Fy hi)
  have AO:=Gu hi
  rcases hx:ar.getD i Fy with ⟨o',n',Iz,I1,I4,st',I5⟩
  rw [hx] at i3 Jn AO
  refine⟨_,⟨by omega,(Cd.mk o' n' Iz I1 I4 st' I5).cells,AO,rfl⟩,?_⟩
  refine⟨((p+1:Nat):Int),wrap_i64 MBc ME,?_⟩
  have DT:=ih (.mk o' n' Iz I1 I4 st' I5) l (p+1) Jn MBc ME
  rcases hv:BQ d (.mk o' n' Iz I1 I4 st' I5) l with _ | l2
  ·rw [hv] at DT i3
   refine DT.eq rfl ?_
   refine MD4 ?_
   exact AL _ rfl rfl (Bf (by rw [<- i3];rfl))
  ·have hle:=FT _ _ _ _ hv
   rw [hv] at DT i3
   refine DT.eq rfl ?_
   refine And.intro (fun h=>absurd (show(l2:Int)<0 from h) ME) (fun _=>?_)
   refine MAs ?_
   exact⟨(i+1,l2),⟨by simp only [];omega,MK8,i3⟩,AA [] [] [] rfl (sk) (sk) rfl,by show ar.length - (i+1)<ar.length - i;omega⟩
 have o7:¬ op=7:=o7
 refine qA (fun o8=>?_) (fun o8=>?_)
 ·have o8:op=8:=o8
  exact MBs
 have o8:¬ op=8:=o8
 refine qA (fun o9=>?_) (fun o9=>?_)
 ·have o9:op=9:=o9
  exact MBs
 have o9:¬ op=9:=o9
 by_cases hk:ar.length=0
 rotate_left
 ·refine And.intro (fun h=>absurd (show((ar.map Cd.cells).length:Int)=0 from h) MAI) (fun _=>?_)
  exact MFc
 refine And.intro (fun _=>?_) (fun h=>absurd (show((ar.map Cd.cells).length:Int)=0 from MAI) h)
 refine MJ ?_
 by_cases ht:Av op n rel val r st=true
 rotate_left
 ·rw [qQ] at ht
  rw [ht] at hT
  refine hT.eq rfl ?_
  exact MFc
 rw [ht] at hT
 refine hT.eq rfl ?_
 have hy:=FY (by simp [Ay,Az, *])
 have har:ar=[]:=qf.1 hk
 rw [har,ko] at hy
 refine⟨(m:Int),MEJ,?_⟩
 exact AL _ rfl rfl (Bf (by rw [<- hy];rfl))
theorem gy:∀ d,d<=8->aM8 d
 | 0,_=>by
  rintro⟨op,n,rel,val,r,st,ar⟩ left p hb hl hp9
  refine pure_of_vc Tryz.func180 rfl rfl rfl ?_
  refine qA (fun h1=>?_) (fun h1=>?_)
  ·exact AL _ rfl rfl rfl
  ·refine And.intro (fun _=>?_) (fun h=>absurd (show(8:Int)<(p:Nat) by omega) h)
   exact AL _ rfl rfl rfl
 | d+1,h=>aKF d (gy d (by omega))
theorem aM7 (op n rel val:Int) (r:Rf) (st:List Int) (ar:List Cd) (_hs:st.length<=9223372036854775807) (_ha:ar.length<=9223372036854775807):Pure cx 179 [(Cd.mk op n rel val r st ar).pv] (·=.ret [.bool (F9 (.mk op n rel val r st ar))]):=by
 have epv:(Cd.mk op n rel val r st ar).pv=.agg [i64 op,i64 n,i64 rel,i64 val, .str r.name,i64 r.mode, .str r.Ae,i64 r.n,ints st,cds ar]:=by
  exact MC3
 rw [epv]
 refine pure_of_vc Tryz.func179 rfl rfl rfl ?_
 refine qA (fun h0=>?_) (fun h0=>?_)
 rotate_left
 ·have h0:¬ op=0:=h0
  exact MCn
 have h0:op=0:=h0
 refine qA (fun h1=>?_) (fun h1=>?_)
 rotate_left
 ·have h1:¬ n=0:=h1
  exact MCn
 have h1:n=0:=h1
 refine qA (fun h2=>?_) (fun h2=>?_)
 rotate_left
 ·have h2:¬ rel=0:=h2
  exact MCn
 have h2:rel=0:=h2
 refine qA (fun h3=>?_) (fun h3=>?_)
 rotate_left
 ·have h3:¬ val=0:=h3
  exact MCn
 have h3:val=0:=h3
 refine⟨⟨MCX,MK⟩,fun h4=>?_,fun h4=>?_⟩
 rotate_left
 ·have h4:¬ r=Bu:=fun e=>h4 MFT
  exact MCn
 have h4:r=Bu:=aCf (by first | exact h4 | (injection h4))
 refine qA (fun h5=>?_) (fun h5=>?_)
 rotate_left
 ·have h5:¬ ((st.map i64).length:Int)=0:=h5
  have h5:¬ st=[]:=fun e=>h5 MFT
  exact MCn
 have h5:((st.map i64).length:Int)=0:=h5
 have h5:st=[]:=by rw [qB] at h5;exact qf.1 ME
 refine qA (fun h6=>?_) (fun h6=>?_)
 ·have h6:((ar.map Cd.cells).length:Int)=0:=h6
  have h6:ar=[]:=by rw [qB] at h6;exact qf.1 ME
  exact MCn
 ·have h6:¬ ((ar.map Cd.cells).length:Int)=0:=h6
  have h6:¬ ar=[]:=fun e=>h6 MFT
  exact MCn
set_option maxHeartbeats 4000000
theorem aHM (l:List Cs) (hb:aF0 l):Pure cx 126 [OI l] (·=.ret [.bool (Bi l)]):=by
 refine pure_of_vc Tryz.func126 rfl rfl rfl ?_
 have hll:=hb.len
 have hm:(l.map Cs.cells).length=l.length:=qB ..
 refine qA (fun h1=>?_) (fun h1=>?_)
 ·exact MF5
 have h1:¬ ((l.map Cs.cells).length:Int)<1:=h1
 rw [hm] at h1
 refine qA (fun h2=>?_) (fun h2=>?_)
 ·exact MEb
 have h2:¬ (12:Int)<((l.map Cs.cells).length:Nat):=h2
 rw [hm] at h2
 have hB0:Bi l=DX (l.drop 0):=MGv
 refine⟨Nat,fun i=>[(0, .p (OI l)),(3, .p (i64 i))],fun _=>⟨0,[]⟩,fun i=>i<=l.length/\Bi l=DX (l.drop i),fun i=>l.length - i,?_,?_⟩
 ·exact⟨0,⟨qL _,hB0⟩,LB rfl MEk trivial rfl⟩
 rintro i ⟨i0,i2⟩
 clear hB0
 refine qA (fun j1=>?_) (fun j1=>?_)
 rotate_left
 ·have j1:¬ (i:Int)<((l.map Cs.cells).length:Nat):=j1
  rw [hm] at j1
  rw [qb ME,DX] at i2
  exact AL _ rfl rfl (Af i2.symm)
 have j1:(i:Int)<((l.map Cs.cells).length:Nat):=j1
 rw [hm] at j1
 have i1:i<l.length:=by omega
 have Dy:=Aa IM i1
 have hbc:=hb.cond _ Dy
 have hbn:=hb.Ah _ Dy
 have AO:=RF i1
 have BJ:=fun h=>Vu (l:=l) (i:=i) h
 have Sq:=fun h=>Vv (l:=l) (i:=i) h
 rcases hx:l.getD i IM with ⟨⟨op,n,rel,val,r,st,ar⟩,Ah⟩
 rw [hx] at hbc hbn AO BJ Sq
 simp only [] at hbc hbn BJ Sq
 have Bt:EE Ah=false->Bi l=false:=fun h=>by
  exact MHy
 have F4:(Ah.map i64).length=Ah.length:=qB ..
 refine⟨_,MAb,?_⟩
 refine qA (fun j2=>?_) (fun j2=>?_)
 ·exact MFq
 have j2:¬ ((Ah.map i64).length:Int)<1:=j2
 rw [F4] at j2
 refine⟨_,MAb,?_⟩
 refine qA (fun j3=>?_) (fun j3=>?_)
 ·exact MEN
 have j3:¬ (8:Int)<((Ah.map i64).length:Nat):=j3
 rw [F4] at j3
 refine⟨Nat,fun k=>[(0, .p (OI l)),(3, .p (i64 i)),(4, .p (i64 k))],fun _=>⟨0,[]⟩,fun k=>k<=Ah.length/\∀ x∈Ah.take k,Im x=true,fun k=>Ah.length - k,?_,?_⟩
 ·exact⟨0,MDQ,LB rfl MEn trivial rfl⟩
 rintro k ⟨k1,k2⟩
 refine⟨_,MAb,?_⟩
 refine qA (fun m1=>?_) (fun m1=>?_)
 ·have m1:(k:Int)<((Ah.map i64).length:Nat):=m1
  rw [F4] at m1
  have hk:k<Ah.length:=by omega
  have bad:Im (Ah.getD k 0)=false->Bi l=false:=fun h=>Bt (by rw [EE,YB 0 hk h,kH])
  refine⟨_,MAb,?_⟩
  refine⟨_,MFj,?_⟩
  refine qA (fun m2=>?_) (fun m2=>?_)
  ·exact MG6
  have m2:¬ Ah.getD k 0 < -9999:=m2
  refine⟨_,MAb,?_⟩
  refine⟨_,MFj,?_⟩
  refine qA (fun m3=>?_) (fun m3=>?_)
  ·exact MFF
  have m3:¬ (9999:Int)<Ah.getD k 0:=m3
  refine MAs ?_
  refine⟨k+1,⟨by omega,fun x hx=>?_⟩,LB rfl MEn trivial rfl,MEX⟩
  exact MGg
 have m1:¬ (k:Int)<((Ah.map i64).length:Nat):=m1
 rw [F4] at m1
 have ry:EE Ah=true:=by
  exact MHL
 refine⟨((l.length - 1:Nat):Int),MD0,?_⟩
 refine qA (fun m4=>?_) (fun m4=>?_)
 ·have m4:(i:Int)=((l.length - 1:Nat):Int):=m4
  have hT:=Sq ME
  rw [<- i2,ry,xJ] at hT
  simp only [Ht] at hbc
  have hP:=aM7 op n rel val r st ar hbc.2.1 hbc.2.2.1
  refine⟨_,MAb,?_⟩
  rw [<- hT] at hP
  by_cases p2:Bi l=true
  rotate_left
  ·rw [qQ] at p2
   rw [p2] at hP
   refine hP.eq rfl ?_
   exact AL _ rfl rfl (Af p2.symm)
  rw [p2] at hP
  refine hP.eq rfl ?_
  refine MAs ?_
  exact⟨i+1,⟨by omega,by rw [p2,qb ME];rfl⟩,LB rfl MEk trivial rfl,MDF⟩
 have m4:¬ (i:Int)=((l.length - 1:Nat):Int):=m4
 have hT:=BJ ME
 rw [<- i2,ry,xJ] at hT
 have hC:=gy 8 (qN _) (.mk op n rel val r st ar) 30 1 hbc MBc ME
 refine⟨_,MAb,?_⟩
 rcases hv:BQ 8 (.mk op n rel val r st ar) 30 with _ | k2
 ·rw [hv] at hC hT
  refine hC.eq rfl ?_
  refine MD4 ?_
  exact AL _ rfl rfl (Af MJn)
 ·rw [hv] at hC hT
  refine hC.eq rfl ?_
  refine And.intro (fun h=>absurd (show(k2:Int)<0 from h) ME) (fun _=>?_)
  refine MAs ?_
  exact⟨i+1,⟨by omega,MJn⟩,LB rfl MEk trivial rfl,MDF⟩
theorem aKE (l:List Rf) (hl:l.length<=9223372036854775807) (hb:∀ r∈l,Us r):Pure cx 124 [FX l] (·=.ret [.bool (decide (l.length<=8) && l.all CU)]):=by
 refine pure_of_vc Tryz.func124 rfl rfl rfl ?_
 have hm:(l.map Rf.cells).length=l.length:=qB ..
 refine⟨Nat,fun k=>[(0, .p (FX l)),(3, .p (i64 k))],fun _=>⟨0,[]⟩,fun k=>k<=l.length/\∀ x∈l.take k,CU x=true,fun k=>l.length - k,?_,?_⟩
 ·exact⟨0,MDQ,LB rfl MEk trivial rfl⟩
 rintro k ⟨k1,k2⟩
 refine qA (fun m1=>?_) (fun m1=>?_)
 ·have m1:(k:Int)<((l.map Rf.cells).length:Nat):=m1
  rw [hm] at m1
  have hk:k<l.length:=by omega
  refine⟨_,⟨by omega,(l.getD k Bu).cells,G7 hk,rfl⟩,?_⟩
  have hR:=aHN (l.getD k Bu) (hb _ (Aa Bu hk))
  by_cases r1:CU (l.getD k Bu)=true
  rotate_left
  ·rw [qQ] at r1
   rw [r1] at hR
   refine hR.eq rfl ?_
   exact AL _ rfl rfl (Af (by rw [YB Bu hk r1,kH]))
  rw [r1] at hR
  refine hR.eq rfl ?_
  refine MAs ?_
  refine⟨k+1,⟨by omega,fun x hx=>?_⟩,LB rfl MEk trivial rfl,MDE⟩
  rw [AU Bu hk] at hx
  exact MDl
 have m1:¬ (k:Int)<((l.map Rf.cells).length:Nat):=m1
 rw [hm] at m1
 rw [Ar ME] at k2
 have ha:l.all CU=true:=qi.2 k2
 refine qA (fun m2=>?_) (fun m2=>?_)
 ·have m2:((l.map Rf.cells).length:Int)<=8:=m2
  rw [hm] at m2
  exact AL _ rfl rfl (Af (by rw [ha,qE ME];rfl))
 ·have m2:¬ ((l.map Rf.cells).length:Int)<=8:=m2
  rw [hm] at m2
  exact AL _ rfl rfl (Af (by rw [qF ME];rfl))
theorem aKD (d:De) (hb:lT d):Pure cx 88 [d.pv] (·=.ret [.bool (Bg d)]):=by
 refine pure_of_vc Tryz.func88 rfl rfl rfl ?_
 have hN:=Ng d.n
 have hF:=aKE d.refs hb.len hb.refs
 have hI:=XV d.name hb.name
 have hJ:=XV d.Ae hb.Ae
 have hC:=aHM d.cases hb.cases
 have hrl:=hb.len
 have IL:=hb.cases.len
 clear hb
 by_cases n1:DW d.n=true
 rotate_left
 ·exact MG5
 rw [n1] at hN
 refine hN.eq rfl ?_
 by_cases n2:(decide (d.refs.length<=8) && d.refs.all CU)=true
 rotate_left
 ·rw [qQ] at n2
  rw [n2] at hF
  refine hF.eq rfl ?_
  exact AL _ rfl rfl (Af (by rw [Bg,n1,xJ,n2];rfl))
 rw [n2] at hF
 refine hF.eq rfl ?_
 have Hr:Bg d=BP d:=by rw [Bg,n1,xJ,n2];rfl
 clear hF hN n1 n2
 refine And.intro (fun q1=>?_) (fun q1=>?_)
 ·have q1:d.Ae=[]:=q1
  by_cases p1:Bb d.name=true
  rotate_left
  ·have p1':=p1
   rw [qQ] at p1
   rw [p1] at hI
   refine hI.eq rfl ?_
   refine qA (fun o1=>?_) (fun o1=>?_)
   ·exact ME1
   have o1:¬ d.kind=1:=o1
   refine qA (fun o2=>?_) (fun o2=>?_)
   ·have o2:d.kind=2:=o2
    exact Mi
   have o2:¬ d.kind=2:=o2
   refine qA (fun o3=>?_) (fun o3=>?_)
   ·have o3:d.kind=3:=o3
    exact Mi
   have o3:¬ d.kind=3:=o3
   refine qA (fun o4=>?_) (fun o4=>?_)
   ·have o4:d.kind=4:=o4
    exact Mi
   exact MCJ
  rw [p1] at hI
  refine hI.eq rfl ?_
  refine qA (fun o1=>?_) (fun o1=>?_)
  ·exact ME1
  have o1:¬ d.kind=1:=o1
  refine qA (fun o2=>?_) (fun o2=>?_)
  ·have o2:d.kind=2:=o2
   exact MBB
  have o2:¬ d.kind=2:=o2
  refine qA (fun o3=>?_) (fun o3=>?_)
  ·have o3:d.kind=3:=o3
   refine hC.eq rfl ?_
   exact Mi
  have o3:¬ d.kind=3:=o3
  refine qA (fun o4=>?_) (fun o4=>?_)
  ·have o4:d.kind=4:=o4
   refine qA (fun p4=>?_) (fun p4=>?_)
   rotate_left
   ·have p4:¬ ((d.cases.map Cs.cells).length:Int)=0:=p4
    have p4:¬ d.cases=[]:=fun e=>p4 MFT
    exact Mi
   have p4:((d.cases.map Cs.cells).length:Int)=0:=p4
   have p4:d.cases=[]:=by rw [qB] at p4;exact qf.1 ME
   exact Mi
  exact MCJ
 have q1:¬ d.Ae=[]:=q1
 refine And.intro (fun q2=>?_) (fun q2=>?_)
 rotate_left
 ·have q2:¬ d.kind=3:=q2
  exact Mi
 have q2:d.kind=3:=q2
 by_cases q3:Bb d.Ae=true
 rotate_left
 ·rw [qQ] at q3
  rw [q3] at hJ
  refine hJ.eq rfl ?_
  exact Mi
 rw [q3] at hJ
 refine hJ.eq rfl ?_
 by_cases p1:Bb d.name=true
 rotate_left
 ·rw [qQ] at p1
  rw [p1] at hI
  refine hI.eq rfl ?_
  refine And.intro (fun h=>absurd (show d.kind=1 from h) ME) (fun _=>?_)
  refine And.intro (fun h=>absurd (show d.kind=2 from h) ME) (fun _=>?_)
  refine And.intro (fun _=>?_) (fun h=>absurd q2 h)
  exact Mi
 rw [p1] at hI
 refine hI.eq rfl ?_
 refine And.intro (fun h=>absurd (show d.kind=1 from h) ME) (fun _=>?_)
 refine And.intro (fun h=>absurd (show d.kind=2 from h) ME) (fun _=>?_)
 refine And.intro (fun _=>?_) (fun h=>absurd q2 h)
 refine hC.eq rfl ?_
 exact Mi
theorem aOx (ds:List De) (hb:NH ds):Pure cx 53 [JV ds] (·=.ret [.bool (CK ds)]):=by
 refine pure_of_vc Tryz.func53 rfl rfl rfl ?_
 have hl:=hb.len
 have hm:(ds.map De.cells).length=ds.length:=qB ..
 have Hr:∀ k,k<=ds.length->(30<k∨k=ds.length)->(∀ x∈ds.take k,Bg x=true)->CK ds=decide (ds.length<=30):=fun k h1 h2 h3=>by
  rcases h2 with h2 | h2
  ·rw [CK,qF (show ¬ ds.length<=30 by omega)];rfl
  ·rw [Ar ME] at h3
   rw [CK,qi.2 h3,xX]
 refine⟨Nat,fun k=>[(1, .ptr 0 0 0),(3, .p (i64 k))],fun _=>⟨1,[(0,srO (.p (Dw ds)))]⟩,fun k=>k<=ds.length/\k<=31/\∀ x∈ds.take k,Bg x=true,fun k=>ds.length - k,?_,?_⟩
 ·exact⟨0,⟨qL _,by omega,by simp⟩,AA [] [] [] rfl (sk) (sk) rfl⟩
 rintro k ⟨k1,k3,k2⟩
 refine qA (fun m1=>?_) (fun m1=>?_)
 ·have m1:(k:Int)<((ds.map De.cells).length:Nat):=m1
  rw [hm] at m1
  have hk:k<ds.length:=by omega
  refine qA (fun m2=>?_) (fun m2=>?_)
  ·have m2:(k:Int)<=30:=m2
   refine⟨_,MJA,?_⟩
   have hR:=aKD (ds.getD k Aj) (hb.decl _ (Aa Aj hk))
   by_cases r1:Bg (ds.getD k Aj)=true
   rotate_left
   ·rw [qQ] at r1
    rw [r1] at hR
    refine hR.eq rfl ?_
    exact AL _ rfl rfl (Af (by rw [CK,YB Aj hk r1,kH]))
   rw [r1] at hR
   refine hR.eq rfl ?_
   refine MAs ?_
   refine⟨k+1,⟨by omega,by omega,fun x hx=>?_⟩,AA [] [] [] rfl (sk) (sk) rfl,MC5⟩
   rw [AU Aj hk] at hx
   exact MDl
  ·have m2:¬ (k:Int)<=30:=m2
   refine And.intro (fun h=>?_) (fun h=>?_)
   ·have h:((ds.map De.cells).length:Int)<=30:=h
    rw [hm] at h
    omega
   ·exact AL _ rfl rfl (Af (by rw [Hr k k1 (.inl MBc) k2,qF ME]))
 ·have m1:¬ (k:Int)<((ds.map De.cells).length:Nat):=m1
  rw [hm] at m1
  refine And.intro (fun h=>?_) (fun h=>?_)
  ·have h:((ds.map De.cells).length:Int)<=30:=h
   rw [hm] at h
   exact AL _ rfl rfl (Af (by rw [Hr k k1 (.inr MBc) k2,qE ME]))
  ·have h:¬ ((ds.map De.cells).length:Int)<=30:=h
   rw [hm] at h
   exact AL _ rfl rfl (Af (by rw [Hr k k1 (.inr MBc) k2,qF ME]))
end Go.Proofs.YtkegmchjobphdaaGreatDoor
namespace Go.Proofs.YtkegmchjobphdaaGreatDoor
open Go Y
set_option maxRecDepth 100000
set_option maxHeartbeats 4000000
mutual
def csz:Cd->Nat
 | .mk _ _ _ _ _ _ ar=>aKC ar+1
def aKC:List Cd->Nat
 | []=>0
 | c::r=>csz c+aKC r
end
theorem nH:∀ {l:List Cd} {c:Cd},c∈l->csz c<=aKC l
 | [],_,h=>by simp at h
 | x::l,c,h=>by
  rw [aKC]
  rcases qw.1 h with rfl | h
  ·omega
  ·have:=nH h;omega
theorem Ju {a b:Rf} (h:a.cells=b.cells):a=b:=by
 obtain⟨n,m,p,k⟩:=a
 obtain⟨n',m',p',k'⟩:=b
 injection h with h1 h
 injection h with h2 h
 injection h with h3 h
 injection h with h4 h
 injection h1 with h1
 injection h2 with _ h2
 injection h3 with h3
 injection h4 with _ h4
 subst h1 h2 h3 h4
 rfl
end Go.Proofs.YtkegmchjobphdaaGreatDoor
namespace Go.Proofs.YtkegmchjobphdaaGreatDoor
open Go Y
set_option maxRecDepth 100000
set_option maxHeartbeats 4000000
def Out {α:Type} (b:Bool) (p:Nat) (r:Rd α) (a:α) (q:Nat) (b':Bool):Prop:=if b=true then b'=true/\q=p else r=if b'=true then .inl q else .inr (a,q)
theorem Out.then {α β:Type} {b b1 b2:Bool} {p q q2:Nat} {r:Rd α} {k:α->Nat->Rd β} {a:α} {c:β} (h:Out b p r a q b1) (h2:Out b1 q (k a q) c q2 b2):Out b p (r.then k) c q2 b2:=by
 cases b
 ·have h:r=if b1=true then .inl q else .inr (a,q):=h
  show r.then k=_
  cases b1
  ·rw [qG ML] at h
   subst h
   exact h2
  ·rw [qM rfl] at h
   subst h
   obtain⟨rfl,rfl⟩:b2=true/\q2=q:=h2
   rfl
 ·obtain⟨rfl,rfl⟩:b1=true/\q=p:=h
  exact h2
theorem Out.bad {α:Type} {p:Nat} {r:Rd α} {a:α}:Out true p r a p true:=MC
theorem Out.same {α:Type} {b:Bool} {p:Nat} {a:α}:Out b p (.inr (a,p)) a p b:=by
 cases b
 ·rfl
 ·exact MC
theorem Out.ret {α:Type} {b:Bool} {p:Nat} {a a':α} (h:a=a'):Out b p (.inr (a,p)) a' p b:=by
 subst h;exact Out.same
theorem Out.no {α:Type} {c:Prop} [Decidable c] {b:Bool} {p q:Nat} {x y:Rd α} {a:α} {b':Bool} (h:¬ (b=false/\c)) (hy:Out b p y a q b'):Out b p (if c then x else y) a q b':=by
 cases b
 ·rw [qG (fun e=>h ⟨rfl,e⟩)];exact hy
 ·exact hy
def LK {α:Type} (b0:Bool) (q0:Nat) (R:Rd α) (go:Nat->Rd α) (n:Nat) (q:Nat) (b:Bool):Prop:=∃ f,(b=false->n - q<f)/\∀ l q' b',Out b q (go f) l q' b'->Out b0 q0 R l q' b'
theorem LK.step {α:Type} {b0:Bool} {q0:Nat} {R:Rd α} {go go':Nat->Rd α} {n q q2:Nat} {b2:Bool} (h:LK b0 q0 R go n q false) (hs:∀ f l q' b',Out b2 q2 (go' f) l q' b'->Out false q (go (f+1)) l q' b') (GL:b2=false->q<q2/\q2<=n):LK b0 q0 R go' n q2 b2:=by
 obtain⟨f,hf,hk⟩:=h
 obtain⟨f,rfl⟩:∃ g,f=g+1:=⟨f - 1,by have:=hf rfl;omega⟩
 refine⟨f,fun e=>?_,fun l q' b' ho=>hk l q' b' (hs f l q' b' ho)⟩
 have:=hf rfl
 have:=GL e
 omega
def sgL:List (List UInt8):=[tEq,tNe,tLt,tLe]
def sg (i:Nat):List UInt8:=sgL.getD i []
set_option maxHeartbeats 40000000
theorem AR {C : Cx} {rd : Bool} {n0 N : Nat} {all : List Oper} {σ : Sg} {ds : List AD} {H : Hp} {K : Sg -> List AD -> Hp -> Prop} {X : List AP -> Sg -> List AD -> Hp -> Prop} (ot : OT)
    (h : (C.P.follows .mixedOrders && FN N all (Cr all []) && JB all (Cr all []) ot [] [] []) = true) (hv : vD C rd all σ K X ot [] ds H) :
    ∃ ot, (C.P.follows .mixedOrders && FN N all (Cr all []) && JB all (Cr all []) ot [] [] []) = true /\
    ((vD C rd all σ K X ot [] ds H) ∨
     ∃ (α : Type) (sl : α -> List (Nat × AV)) (hp : α -> Hp) (pr : α -> Prop),
      vD C rd all σ (fun σ' CS H' => ∃ x, pr x /\ O9 C n0 N σ' CS H' (Bh (fun _ => .junk) (sl x)) ds (hp x)) X ot [] ds H /\
      ∀ x, pr x -> K (Bh (fun _ => .junk) (sl x)) ds (hp x)) := ⟨_, h, .inl hv⟩
theorem Er {C : Cx} {rd : Bool} {n0 N : Nat} {all : List Oper} {σ : Sg} {ds : List AD} {H : Hp} {K : Sg -> List AD -> Hp -> Prop} {X : List AP -> Sg -> List AD -> Hp -> Prop} (sl : List (Nat × AV)) (hp : Hp) (ot : OT)
    (h : (C.P.follows .mixedOrders && FN N all (Cr all []) && JB all (Cr all []) ot [] [] []) = true)
    (hv : vD C rd all σ (fun σ' CS H' => O9 C n0 N σ' CS H' (Bh (fun _ => .junk) sl) ds hp) X ot [] ds H) (hk : K (Bh (fun _ => .junk) sl) ds hp) :
    ∃ ot, (C.P.follows .mixedOrders && FN N all (Cr all []) && JB all (Cr all []) ot [] [] []) = true /\
    ((vD C rd all σ K X ot [] ds H) ∨
     ∃ (α : Type) (sl : α -> List (Nat × AV)) (hp : α -> Hp) (pr : α -> Prop),
      vD C rd all σ (fun σ' CS H' => ∃ x, pr x /\ O9 C n0 N σ' CS H' (Bh (fun _ => .junk) (sl x)) ds (hp x)) X ot [] ds H /\
      ∀ x, pr x -> K (Bh (fun _ => .junk) (sl x)) ds (hp x)) :=
  ⟨_, h, .inr ⟨Unit, fun _ => sl, fun _ => hp, fun _ => True, by
    have e : (fun σ' CS H' => ∃ _x : Unit, True /\ O9 C n0 N σ' CS H' (Bh (fun _ => .junk) sl) ds hp) = fun σ' CS H' => O9 C n0 N σ' CS H' (Bh (fun _ => .junk) sl) ds hp := by
      funext a b c
      exact propext ⟨fun ⟨_, _, h⟩ => h, fun h => ⟨(), trivial, h⟩⟩
    rw [e]; exact hv, fun _ _ => hk⟩⟩
theorem Out.val {α:Type} {b:Bool} {p:Nat} {r:Rd α} {a a':α} {q:Nat} {b':Bool} (h:Out b p r a q b') (e:b'=false->a=a'):Out b p r a' q b':=by
 cases b'
 ·rw [<- e rfl];exact h
 ·cases b
  ·exact h
  ·exact h
theorem Out.live {α:Type} {b:Bool} {p:Nat} {r:Rd α} {a:α} {q:Nat} (h:Out b p r a q false):b=false:=by
 cases b
 ·rfl
 ·exact absurd h.1 ML
set_option maxHeartbeats 4000000
abbrev TCk:TypeId:=210
abbrev aJ5:TypeId:=206
def Bz (l:List Ac):Ag:=⟨aJ5,false, .GN (l.map Ac.cells)⟩
def EX (es:List (List UInt8 × PV)):Ag:=⟨68,false, .ms es⟩
def Ej (ds:List De) (a:Int) (k n:Nat):Ag:=⟨TCk,false, .bx [.p (Dw ds), .p (i64 a), .mp 1, .sl k 3 0 n]⟩
abbrev GQ (ds:List De) (a:Nat) (es:List (List UInt8 × PV)) (l:List Ac):Hp:=⟨3,[(2,Bz l),(1,EX es),(0,Ej ds (a:Nat) 2 l.length)]⟩
abbrev VI (ds:List De) (a:Nat) (es:List (List UInt8 × PV)) (l:List Ac):Hp:=⟨4,[(3,Bz l),(1,EX es),(0,Ej ds (a:Nat) 3 l.length)]⟩
structure ZZ (ds:List De) (a:Nat) (es:List (List UInt8 × PV)):Prop where
 look:∀ nm,nm ≠ []->BR es nm=(Di (ds.take a) nm).map fun i=>i64 (i:Nat)
 len:ds.length<=30
 le:a<=ds.length
def ckQ (H:Hp) (v:PV) (e:AE) (H':Hp):Prop:=e=.returned (.p v)/\H'=H
theorem ZZ.none {ds:List De} {a:Nat} {es:List (List UInt8 × PV)} (h:ZZ ds a es) {nm:List UInt8} (hn:nm ≠ []) (hf:EC (ds.take a) nm=none):BR es nm=none:=by
 have:=h.look nm hn
 rw [EC] at hf
 cases hi:Di (ds.take a) nm with
 | none=>rw [hi] at this;exact this
 | some i=>rw [hi] at hf;cases hf
theorem ZZ.some {ds:List De} {a:Nat} {es:List (List UInt8 × PV)} (h:ZZ ds a es) {nm:List UInt8} (hn:nm ≠ []) {t:De} (hf:EC (ds.take a) nm=some t):∃ i:Nat,BR es nm=some (i64 (i:Nat))/\i<ds.length/\(ds.map De.cells)[i]?=Option.some t.cells:=by
 have:=h.look nm hn
 rw [EC] at hf
 cases hi:Di (ds.take a) nm with
 | none=>rw [hi] at hf;cases hf
 | some i=>
  rw [hi] at this hf
  obtain⟨hl,hv⟩:=aFx hi
  rw [gM hi] at hv
  injection hv with hv
  injection hf with hf
  have hf:(ds.take a).getD i Aj=t:=hf
  refine⟨i,this,hl,?_⟩
  have:=Fj hl
  rw [<- hv,hf] at this
  exact this
theorem aHC {ds:List De} {a:Nat} {es:List (List UInt8 × PV)} (b:Nat) (l:List Ac) (h:ZZ ds a es) {nm:List UInt8} (hn:nm ≠ []):A7 cx 190 [.ptr 0 0 0, .p (.str nm)] (GQ ds b es l) (ckQ (GQ ds b es l) (i64 (DL (ds.take a) nm))):=by
 cases hv:EC (ds.take a) nm with
 | none=>
  have hs:DL (ds.take a) nm=0:=by rw [DL,hv]
  have hf:=h.none hn hv
  rw [hs]
  refine holdsN_of_vc Tryz.func190 rfl rfl rfl ?_
  refine⟨_, .inr MHQ,?_⟩
  exact⟨[],[],[], .returned (.p (i64 0)),GQ ds b es l,rfl,sk,sk,rfl,rfl⟩
 | some t=>
  obtain⟨i,hf,hl,hc⟩:=h.some hn hv
  have hs:DL (ds.take a) nm=if t.kind=2 then t.n else 0:=by rw [DL,hv]
  rw [hs]
  refine holdsN_of_vc Tryz.func190 rfl rfl rfl ?_
  refine⟨_, .inl MGl,?_⟩
  refine⟨_,⟨by omega,t.cells,hc,rfl⟩,?_⟩
  refine qA (fun h2=>?_) (fun h2=>?_)
  ·have h2:t.kind=2:=h2
   refine⟨_,⟨by omega,t.cells,hc,rfl⟩,?_⟩
   exact⟨[],[],[], .returned (.p (i64 t.n)),GQ ds b es l,rfl,sk,sk,by rw [qM h2],rfl⟩
  ·have h2:¬ t.kind=2:=h2
   exact⟨[],[],[], .returned (.p (i64 0)),GQ ds b es l,rfl,sk,sk,by rw [qG h2],rfl⟩
theorem aKB {r:Rf} {nm pl:List UInt8} {m n:Int}:(r=⟨nm,m,pl,n⟩) ↔ (r.name=nm/\r.mode=m/\r.Ae=pl/\r.n=n):=by
 obtain⟨a,b,c,d⟩:=r
 constructor
 ·intro h;injection h with h1 h2 h3 h4;exact⟨h1,h2,h3,h4⟩
 ·rintro⟨rfl,rfl,rfl,rfl⟩;rfl
theorem Oo {d:De} {r:Rf}:O7 d r=true ↔ d.kind=3/\¬ d.Ae=[]/\r=⟨d.name,1,d.Ae,if r.n<1 then 1 else r.n⟩:=by
 simp only [O7,qC,qJ,aKB]
 constructor
 ·rintro⟨h1,h2,h3,h4,h5,h6⟩
  exact⟨h1,h2,h3,h4,h5,by rw [qG ME]⟩
 ·rintro⟨h1,h2,h3,h4,h5,h6⟩
  exact⟨h1,h2,h3,h4,h5,by split at h6 <;> omega⟩
theorem aL2 (d:De) (r:Rf):Pure cx 229 [d.pv,r.pv] (·=.ret [.bool (O7 d r)]):=by
 have hb:∀ {b:Bool},(O7 d r=true ↔ b=true)->PEnd.ret [.bool b]=.ret [.bool (O7 d r)]:=fun h=>by rw [Bool.eq_iff_iff.2 h]
 refine pure_of_vc Tryz.func229 rfl rfl rfl ?_
 refine qA (fun h1=>?_) (fun h1=>?_)
 rotate_left
 ·have h1:¬ d.kind=3:=h1
  exact AL _ rfl rfl (hb ⟨fun h=>absurd (Oo.1 h).1 h1,fun h=>MGA⟩)
 have h1:d.kind=3:=h1
 refine qA (fun h2=>?_) (fun h2=>?_)
 ·have h2:d.Ae=[]:=h2
  exact AL _ rfl rfl (hb ⟨fun h=>absurd h2 (Oo.1 h).2.1,fun h=>MGA⟩)
 have h2:¬ d.Ae=[]:=h2
 refine⟨⟨MCX,MK⟩,fun h3=>?_,fun h3=>?_⟩
 ·have h3:r=⟨d.name,1,d.Ae,if r.n<1 then 1 else r.n⟩:=Ju (by first | exact h3 | (injection h3))
  exact AL _ rfl rfl (hb ⟨fun _=>rfl,fun _=>Oo.2 ⟨h1,h2,h3⟩⟩)
 ·exact AL _ rfl rfl (hb ⟨fun h=>absurd (qH Rf.cells (Oo.1 h).2.2) h3,fun h=>MGA⟩)
def Bl (d:De):Ag:=⟨aF2,false, .bx (d.cells.map .p)⟩
def bL (r:Rf):Ag:=⟨aOP,false, .bx (r.cells.map .p)⟩
def QC (c:Cd):Ag:=⟨aLj,false, .bx (c.cells.map .p)⟩
theorem Gg {a b:Int} (h:a=b):AE.returned (.p (i64 a))=.returned (.p (i64 b)):=by rw [h]
theorem WL {ds:List De} {a:Nat} {es:List (List UInt8 × PV)} (l:List Ac) (h:ZZ ds a es) (d:De) {r:Rf} (hn:r.name ≠ []):A7 cx 218 [.ptr 0 0 0, .p d.pv, .p r.pv] (GQ ds a es l) (ckQ (GQ ds a es l) (i64 (IE (ds.take a) d r))):=by
 obtain⟨R,hR⟩:∃ R,R=IE (ds.take a) d r:=MX
 rw [<- hR]
 cases hv:EC (ds.take a) r.name with
 | none=>
  have hf:=h.none hn hv
  have hO:=aL2 d r
  rw [IE,hv] at hR
  simp only [] at hR
  clear hv
  obtain⟨dk,dn,AQ,Ab,AJ,AZ⟩:=d
  obtain⟨rn,rm,rp,ri⟩:=r
  refine holdsN_of_vc Tryz.func218 rfl rfl rfl ?_
  refine FI.seq rfl ?_
  refine⟨_, .inr MHQ,?_⟩
  by_cases ho:O7 ⟨dk,dn,AQ,Ab,AJ,AZ⟩ ⟨rn,rm,rp,ri⟩=true
  ·rw [ho] at hO
   rw [qM ho] at hR
   refine hO.eq rfl ?_
   exact MCL
  ·rw [qG ho] at hR
   rw [qQ] at ho
   rw [ho] at hO
   refine hO.eq rfl ?_
   exact⟨[],[],[], .returned (.p (i64 3)),GQ ds a es l,rfl,sk,sk,Gg hR.symm,rfl⟩
 | some t=>
  obtain⟨i,hf,hl,hc⟩:=h.some hn hv
  rw [IE,hv] at hR
  simp only [] at hR
  clear hv
  obtain⟨dk,dn,AQ,Ab,AJ,AZ⟩:=d
  obtain⟨rn,rm,rp,ri⟩:=r
  obtain⟨tk,tn,tnm,LA,trs,tcs⟩:=t
  rw [PT] at hR
  simp only [] at hR
  refine holdsN_of_vc Tryz.func218 rfl rfl rfl ?_
  refine FI.seq rfl ?_
  refine⟨_, .inl MGl,?_⟩
  refine⟨_,MDS,?_⟩
  refine qA (fun k2=>?_) (fun k2=>?_)
  ·have k2:tk=2:=k2
   rw [qM k2] at hR
   exact MAF
  have k2:¬ tk=2:=k2
  rw [qG k2] at hR
  refine qA (fun p0=>?_) (fun p0=>?_)
  ·have p0:LA=[]:=p0
   rw [qM p0] at hR
   refine qA (fun m0=>?_) (fun m0=>?_)
   ·have m0:rm=0:=m0
    rw [qF ME] at hR
    exact MCL
   ·have m0:¬ rm=0:=m0
    rw [qE m0] at hR
    exact MAF
  have p0:¬ LA=[]:=p0
  rw [qG p0] at hR
  refine qA (fun m0=>?_) (fun m0=>?_)
  ·have m0:rm=0:=m0
   rw [qM m0] at hR
   exact MAF
  have m0:¬ rm=0:=m0
  rw [qG m0] at hR
  refine qA (fun m2=>?_) (fun m2=>?_)
  ·have m2:rm=2:=m2
   rw [qM m2] at hR
   refine FI.seq rfl ?_
   refine(aHC a l h p0).holds.BB [] [] rfl (sk) (sk) fun e0 H0 hq=>?_
   obtain⟨rfl,rfl⟩:=hq
   refine⟨rfl,_,⟨6,(2,Bz l)::(1,EX es)::(0,Ej ds (a:Nat) 2 l.length)::[(5,Bl ⟨tk,tn,tnm,LA,trs,tcs⟩),(4,bL ⟨rn,rm,rp,ri⟩),(3,Bl ⟨dk,dn,AQ,Ab,AJ,AZ⟩)]⟩,rfl,rfl,?_⟩
   refine⟨sk,?_⟩
   refine qA (fun g1=>?_) (fun g1=>?_)
   ·have g1:DL (ds.take a) LA<=ri:=g1
    rw [qE g1] at hR
    exact MAF
   ·have g1:¬ DL (ds.take a) LA<=ri:=g1
    rw [qF g1] at hR
    exact MCL
  have m2:¬ rm=2:=m2
  rw [qG m2] at hR
  refine qA (fun m1=>?_) (fun m1=>?_)
  ·have m1:rm=1:=m1
   rw [qM m1] at hR
   refine qA (fun q1=>?_) (fun q1=>?_)
   rotate_left
   ·have q1:¬ dk=3:=q1
    rw [qE (show ¬ (dk=3/\Ab=LA/\rp=LA) from fun h=>q1 h.1)] at hR
    exact MAF
   have q1:dk=3:=q1
   refine qA (fun q2=>?_) (fun q2=>?_)
   rotate_left
   ·have q2:¬ Ab=LA:=q2
    rw [qE (show ¬ (dk=3/\Ab=LA/\rp=LA) from fun h=>q2 h.2.1)] at hR
    exact MAF
   have q2:Ab=LA:=q2
   refine qA (fun q3=>?_) (fun q3=>?_)
   ·have q3:rp=LA:=q3
    rw [qF (show ¬ ¬ (dk=3/\Ab=LA/\rp=LA) from fun h=>h ⟨q1,q2,q3⟩)] at hR
    exact MCL
   ·have q3:¬ rp=LA:=q3
    rw [qE (show ¬ (dk=3/\Ab=LA/\rp=LA) from fun h=>q3 h.2.2)] at hR
    exact MAF
  ·have m1:¬ rm=1:=m1
   rw [qG m1] at hR
   exact MCL
def aRD (ds:List De) (a:Nat) (es:List (List UInt8 × PV)) (l:List Ac) (v:Option Int) (e:AE) (H':Hp):Prop:=e=.returned (.GG [.p (i64 (v.getD 0)),vB v.isSome])/\H'=GQ ds a es l
theorem aHL {ds:List De} {a:Nat} {es:List (List UInt8 × PV)} (l:List Ac) (h:ZZ ds a es) (d:De) {r:Rf} (hn:r.name ≠ []):A7 cx 230 [.ptr 0 0 0, .p d.pv, .p r.pv] (GQ ds a es l) (aRD ds a es l (Sj (ds.take a) d r)):=by
 obtain⟨R,hR⟩:∃ R,R=Sj (ds.take a) d r:=MX
 rw [<- hR]
 cases hv:EC (ds.take a) r.name with
 | none=>
  have hf:=h.none hn hv
  have hO:=aL2 d r
  rw [Sj,hv] at hR
  simp only [] at hR
  clear hv
  obtain⟨dk,dn,AQ,Ab,AJ,AZ⟩:=d
  obtain⟨rn,rm,rp,ri⟩:=r
  refine holdsN_of_vc Tryz.func230 rfl rfl rfl ?_
  refine FI.seq rfl ?_
  refine⟨_, .inr MHQ,?_⟩
  by_cases ho:O7 ⟨dk,dn,AQ,Ab,AJ,AZ⟩ ⟨rn,rm,rp,ri⟩=true
  ·rw [ho] at hO
   rw [qM ho] at hR
   subst hR
   refine hO.eq rfl ?_
   exact⟨[],[],[], .returned (.GG [.p (i64 dn),vB true]),GQ ds a es l,rfl,sk,sk,rfl,rfl⟩
  ·rw [qG ho] at hR
   rw [qQ] at ho
   rw [ho] at hO
   subst hR
   refine hO.eq rfl ?_
   exact MFw
 | some t=>
  obtain⟨i,hf,hl,hc⟩:=h.some hn hv
  rw [Sj,hv] at hR
  simp only [] at hR
  clear hv
  obtain⟨dk,dn,AQ,Ab,AJ,AZ⟩:=d
  obtain⟨rn,rm,rp,ri⟩:=r
  obtain⟨tk,tn,tnm,LA,trs,tcs⟩:=t
  simp only [] at hR
  refine holdsN_of_vc Tryz.func230 rfl rfl rfl ?_
  refine FI.seq rfl ?_
  refine⟨_, .inl MGl,?_⟩
  refine⟨_,MDS,?_⟩
  refine qA (fun k2=>?_) (fun k2=>?_)
  ·have k2:tk=2:=k2
   rw [qM k2] at hR
   subst hR
   exact MFw
  ·have k2:¬ tk=2:=k2
   rw [qG k2] at hR
   subst hR
   refine⟨_,MDS,?_⟩
   exact⟨[],[],[], .returned (.GG [.p (i64 tn),vB true]),GQ ds a es l,rfl,sk,sk,rfl,rfl⟩
theorem aHJ {ds:List De} {a:Nat} {es:List (List UInt8 × PV)} (l:List Ac) (h:ZZ ds a es) (d:De) {op n rel val:Int} {r:Rf} {st:List Int} {ar:List Cd} (hn:r.name ≠ []) (LJ:op=5->1<=st.length) (Ta:st.length<=100) (RU:d.refs.length<=100):A7 cx 220 [.ptr 0 0 0, .p d.pv, .p (Cd.mk op n rel val r st ar).pv] (GQ ds a es l) (ckQ (GQ ds a es l) (i64 (G6 (ds.take a) d op n val r st))):=by
 obtain⟨R,hR⟩:∃ R,R=G6 (ds.take a) d op n val r st:=MX
 rw [<- hR]
 have Tv:=aHL l h d hn
 obtain⟨dk,dn,AQ,Ab,AJ,AZ⟩:=d
 have RU:AJ.length<=100:=RU
 rw [G6] at hR
 cases hV:Sj (ds.take a) ⟨dk,dn,AQ,Ab,AJ,AZ⟩ r with
 | none=>
  rw [hV] at Tv hR
  simp only [] at hR
  clear hV
  refine holdsN_of_vc Tryz.func220 rfl rfl rfl ?_
  refine⟨Nat,fun k=>[(0, .ptr 0 0 0),(4, .ptr 3 0 0),(5, .ptr 4 0 0),(7, .p (.bool false)),(14, .p (FX AJ)),(15, .p (i64 AJ.length)),(16, .p (i64 k))],fun _=>⟨5,[(4,QC (.mk op n rel val r st ar)),(3,Bl ⟨dk,dn,AQ,Ab,AJ,AZ⟩),(2,Bz l),(1,EX es),(0,Ej ds (a:Nat) 2 l.length)]⟩,fun k=>k<=AJ.length/\∀ x∈AJ.take k,x ≠ r,fun k=>AJ.length - k,?_,?_⟩
  ·exact ME3
  rintro k ⟨k1,k2⟩
  refine qA (fun m1=>?_) (fun m1=>?_)
  rotate_left
  ·exact MDg
  have m1:(k:Int)<(AJ.length:Nat):=m1
  have hk:k<AJ.length:=by omega
  have AO:=G7 hk
  have Dy:=Aa Bu hk
  have Ch:∀ x∈AJ.take (k+1),x=AJ.getD k Bu∨x∈AJ.take k:=fun x hx=>by
   exact MD3
  generalize AJ.getD k Bu=x at AO Dy Ch
  refine⟨_,Ma,?_⟩
  refine⟨⟨MCX,MK⟩,fun e1=>?_,fun e1=>?_⟩
  rotate_left
  ·exact MCo
  have e1:x=r:=Ju MHg
  rw [e1] at Dy
  rw [qG (fun h=>h Dy)] at hR
  clear Ch AO k2 m1 hk
  refine qA (fun md=>?_) (fun md=>?_)
  ·have md:r.mode=3:=md
   refine qA (fun o6=>?_) (fun o6=>?_)
   rotate_left
   ·exact MK6
   have o6:op=6:=o6
   rw [qG (fun h=>h.2 o6)] at hR
   exact MCM
  have md:¬ r.mode=3:=md
  rw [qG (fun h=>md h.1)] at hR
  exact MCM
 | some kk=>
  rw [hV] at Tv hR
  simp only [] at hR
  clear hV
  refine holdsN_of_vc Tryz.func220 rfl rfl rfl ?_
  refine⟨Nat,fun k=>[(0, .ptr 0 0 0),(4, .ptr 3 0 0),(5, .ptr 4 0 0),(7, .p (.bool false)),(14, .p (FX AJ)),(15, .p (i64 AJ.length)),(16, .p (i64 k))],fun _=>⟨5,[(4,QC (.mk op n rel val r st ar)),(3,Bl ⟨dk,dn,AQ,Ab,AJ,AZ⟩),(2,Bz l),(1,EX es),(0,Ej ds (a:Nat) 2 l.length)]⟩,fun k=>k<=AJ.length/\∀ x∈AJ.take k,x ≠ r,fun k=>AJ.length - k,?_,?_⟩
  ·exact ME3
  rintro k ⟨k1,k2⟩
  refine qA (fun m1=>?_) (fun m1=>?_)
  rotate_left
  ·exact MDg
  have m1:(k:Int)<(AJ.length:Nat):=m1
  have hk:k<AJ.length:=by omega
  have AO:=G7 hk
  have Dy:=Aa Bu hk
  have Ch:∀ x∈AJ.take (k+1),x=AJ.getD k Bu∨x∈AJ.take k:=fun x hx=>by
   exact MD3
  generalize AJ.getD k Bu=x at AO Dy Ch
  refine⟨_,Ma,?_⟩
  refine⟨⟨MCX,MK⟩,fun e1=>?_,fun e1=>?_⟩
  rotate_left
  ·exact MCo
  have e1:x=r:=Ju MHg
  rw [e1] at Dy
  rw [qG (fun h=>h Dy)] at hR
  clear Ch AO k2 m1 hk
  refine qA (fun md=>?_) (fun md=>?_)
  ·have md:r.mode=3:=md
   refine qA (fun o6=>?_) (fun o6=>?_)
   rotate_left
   ·exact MK6
   have o6:op=6:=o6
   rw [qG (fun h=>h.2 o6)] at hR
   exact MBl
  have md:¬ r.mode=3:=md
  rw [qG (fun h=>md h.1)] at hR
  exact MBl
def nQ (ds:List De) (a:Nat) (es:List (List UInt8 × PV)) (l:List Ac) (e:AE) (H':Hp):Prop:=e=.returned Bv/\H'=VI ds a es l
abbrev aM4:OT:=(.pure 0 (.pure 1 (.pure 2 (.pure 3 (.pure 4 (.pure 5 (.pure 6 (.A8 7 [] (.pure 8 (.pure 9 (.A8 10 [] .fin .nil))) .nil))))))))
theorem Ic (ds:List De) (a:Nat) (es:List (List UInt8 × PV)) (l:List Ac) (k:Int) (nm:List UInt8) (hl:l.length<=100000):A7 cx 132 [.ptr 0 0 0, .p (i64 k), .p (.Dh [.str nm])] (GQ ds a es l) (nQ ds a es (l++[⟨k,a,nm⟩])):=by
 refine MK1 ?_
 refine⟨Nat,fun i=>[(0, .ptr 0 0 0),(6, .ptr 3 0 0),(15, .p (.Dh [.str nm])),(16, .p (i64 1)),(17, .p (i64 i))],fun i=>⟨4,[(3,⟨aJ5,false, .bx [.p (i64 k), .p (i64 (a:Nat)), .p (.str (if i=0 then [] else nm))]⟩),(2,Bz l),(1,EX es),(0,Ej ds (a:Nat) 2 l.length)]⟩,fun i=>i<=1,fun i=>1 - i,?_,?_⟩
 ·exact⟨0,by omega,AA [] [] [] rfl (sk) (sk) rfl⟩
 intro i hi
 refine qA (fun h1=>?_) (fun h1=>?_)
 ·have h1:(i:Int)<1:=h1
  obtain rfl:i=0:=by omega
  refine⟨_,⟨by omega, .str nm,rfl,rfl⟩,?_⟩
  refine MAs ?_
  exact⟨1,by omega,AA [] [] [] rfl (sk) (sk) rfl,ML⟩
 ·have h1:¬ (i:Int)<1:=h1
  obtain rfl:i=1:=by omega
  refine AR aM4 MK ?_
  refine⟨MJe,l.map Ac.cells,AB MBV,MKD,(l++[(Ac.mk k (a:Nat) nm)]).map Ac.cells,MHf,?_⟩
  exact⟨[],[(3,4)],[], .returned Bv,VI ds a es (l++[(Ac.mk k (a:Nat) nm)]),rfl,sk,⟨MCv,MAv,⟨_,rfl,rfl,rfl,_,rfl,_,_,rfl,rfl,_,_,rfl,rfl,_,_,rfl,sk,_,_,rfl,qH (fun k:Nat=>AV.sl 4 3 0 k) (Ak l (Ac.mk k (a:Nat) nm)).symm,rfl⟩,trivial⟩,rfl,rfl⟩
theorem Qo (ds:List De) (a:Nat) (es:List (List UInt8 × PV)) (l:List Ac) (k:Int) (hl:l.length<=100000):A7 cx 132 [.ptr 0 0 0, .p (i64 k), .p .Ad] (GQ ds a es l) (nQ ds a es (l++[⟨k,a,[]⟩])):=by
 refine MK1 ?_
 refine⟨Unit,fun _=>[(0, .ptr 0 0 0),(6, .ptr 3 0 0),(15, .p .Ad),(16, .p (i64 0)),(17, .p (i64 0))],fun _=>⟨4,[(3,⟨aJ5,false, .bx [.p (i64 k), .p (i64 (a:Nat)), .p (.str [])]⟩),(2,Bz l),(1,EX es),(0,Ej ds (a:Nat) 2 l.length)]⟩,fun _=>True,fun _=>0,?_,?_⟩
 ·exact MI2
 intro _ _
 refine MD9 ?_
 refine AR aM4 MK ?_
 refine⟨MJe,l.map Ac.cells,AB MBV,MKD,(l++[(Ac.mk k (a:Nat) [])]).map Ac.cells,MHf,?_⟩
 exact⟨[],[(3,4)],[], .returned Bv,VI ds a es (l++[(Ac.mk k (a:Nat) [])]),rfl,sk,⟨MCv,MAv,⟨_,rfl,rfl,rfl,_,rfl,_,_,rfl,rfl,_,_,rfl,rfl,_,_,rfl,sk,_,_,rfl,qH (fun k:Nat=>AV.sl 4 3 0 k) (Ak l (Ac.mk k (a:Nat) [])).symm,rfl⟩,trivial⟩,rfl,rfl⟩
def dK (nm:List UInt8):Ag:=⟨aQO,true, .pu [.str nm]⟩
theorem nG {ds:List De} {a:Nat} {es:List (List UInt8 × PV)} (l:List Ac) (h:ZZ ds a es) (d:De) (hn:d.name ≠ []) (hl:l.length<=100000):A7 cx 183 [.ptr 0 0 0, .p (.str d.name)] (GQ ds a es l) (nQ ds a es (l++Cc (ds.take a) d)):=by
 have hf:=h.look d.name hn
 have hal:(ds.take a).length=a:=by rw [qj];have:=h.le;omega
 cases hi:Di (ds.take a) d.name with
 | none=>
  rw [hi] at hf
  have ht:Cc (ds.take a) d=[]:=by rw [Cc,hi];rfl
  rw [ht,qU]
  refine holdsN_of_vc Tryz.func183 rfl rfl rfl ?_
  refine⟨_, .inr MHQ,?_⟩
  exact⟨[],[(3,2)],[], .returned Bv,VI ds a es l,rfl,sk,sk,rfl,rfl⟩
 | some i=>
  rw [hi] at hf
  have ht:Cc (ds.take a) d=[⟨2,a,d.name⟩]:=by rw [Cc,hi,hal];rfl
  rw [ht]
  generalize d.name=nm at hf
  refine holdsN_of_vc Tryz.func183 rfl rfl rfl ?_
  refine⟨_, .inl MGl,?_⟩
  refine(Ic ds a es (l) 2 nm MBh).holds.BB [3] [] rfl (sk) MBF fun e0 H0 hq=>?_
  obtain⟨rfl,rfl⟩:=hq
  refine⟨rfl,_,⟨5,(4,Bz ((l)++[Ac.mk 2 (a:Nat) nm]))::(1,EX es)::(0,Ej ds (a:Nat) 4 ((l)++[Ac.mk 2 (a:Nat) nm]).length)::[(3,dK nm)]⟩,rfl,rfl,?_⟩
  exact⟨[],[(3,4)],[], .returned Bv,VI ds a es (l++[⟨2,a,nm⟩]),rfl,sk,sk,rfl,rfl⟩
theorem ZZ.tk {ds:List De} {a:Nat} {es:List (List UInt8 × PV)} (h:ZZ ds a es):(ds.take a).length=a:=by rw [qj];have:=h.le;omega
theorem aHG {ds:List De} {a:Nat} {es:List (List UInt8 × PV)} (l:List Ac) (h:ZZ ds a es) (d:De) (hl:l.length<=100000):A7 cx 184 [.ptr 0 0 0, .p d.pv] (GQ ds a es l) (nQ ds a es (l++BK (ds.take a) d)):=by
 obtain⟨R,hR⟩:∃ R,R=l++BK (ds.take a) d:=MX
 rw [<- hR]
 rw [BK,h.tk] at hR
 obtain⟨dk,dn,AQ,Ab,AJ,AZ⟩:=d
 simp only [] at hR
 refine holdsN_of_vc Tryz.func184 rfl rfl rfl ?_
 refine qA (fun h1=>?_) (fun h1=>?_)
 ·have h1:dn<2:=h1
  rw [qM (.inl h1)] at hR
  exact MCB
 have h1:¬ dn<2:=h1
 refine qA (fun h2=>?_) (fun h2=>?_)
 ·have h2:4<dn:=h2
  rw [qM (.inr h2)] at hR
  exact MCB
 ·have h2:¬ 4<dn:=h2
  exact MGN
abbrev aRC:OT:=(.pure 0 (.pure 1 (.pure 2 (.pure 3 (.pure 4 (.pure 5 .fin))))))
theorem aHK (l:List Rf) (r:Rf) (hl:l.length<=9223372036854775807):Pure cx 217 [FX l,r.pv] (·=.ret [.bool (decide (r∈l))]):=by
 have hI:Pure cx 228 [FX l,r.pv] fun e=>∃ n:Int,e=.ret [i64 n]/\(0<=n ↔ r∈l):=by
  obtain⟨rn,rm,rp,ri⟩:=r
  refine pure_of_vc Tryz.func228 rfl rfl rfl ?_
  refine⟨Nat,fun k=>[(0, .p (FX l)),(3, .ptr 0 0 0),(7, .p (i64 l.length)),(8, .p (i64 k))],fun _=>⟨1,[(0,bL ⟨rn,rm,rp,ri⟩)]⟩,fun k=>k<=l.length/\∀ x∈l.take k,x ≠ ⟨rn,rm,rp,ri⟩,fun k=>l.length - k,?_,?_⟩
  ·exact⟨0,MDQ,AA [] [] [] rfl ⟨rfl,MC,qH (fun n:Nat=>i64 n) (qB ..).symm,rfl,trivial⟩ (sk) rfl⟩
  rintro k ⟨k1,k2⟩
  refine qA (fun m1=>?_) (fun m1=>?_)
  rotate_left
  ·have m1:¬ (k:Int)<(l.length:Nat):=m1
   rw [Ar ME] at k2
   exact AL _ rfl rfl ⟨-1,rfl,⟨fun h=>absurd h ML,fun h=>absurd rfl (k2 _ h)⟩⟩
  have m1:(k:Int)<(l.length:Nat):=m1
  have hk:k<l.length:=by omega
  have AO:=G7 hk
  have Dy:=Aa Bu hk
  have Ch:∀ x∈l.take (k+1),x=l.getD k Bu∨x∈l.take k:=fun x hx=>by
   exact MD3
  generalize l.getD k Bu=x at AO Dy Ch
  refine AR aRC MK ?_
  refine⟨_,Ma,?_⟩
  refine⟨⟨MCX,MK⟩,fun e1=>?_,fun e1=>?_⟩
  ·have e1:⟨rn,rm,rp,ri⟩=x:=Ju MHg
   exact AL _ rfl rfl ⟨(k:Nat),rfl,⟨fun _=>by rw [e1];exact Dy,fun _=>by omega⟩⟩
  ·have e1:¬ x=⟨rn,rm,rp,ri⟩:=fun e=>e1 MLB
   refine MAs ?_
   refine⟨k+1,⟨by omega,fun y hy=>?_⟩,AA [] [] [] rfl (sk) (sk) rfl,MDE⟩
   rcases Ch y hy with rfl | hy
   ·exact e1
   ·exact k2 y hy
 obtain⟨rn,rm,rp,ri⟩:=r
 refine pure_of_vc Tryz.func217 rfl rfl rfl ?_
 refine hI.at fun e he=>?_
 obtain⟨n,rfl,hn⟩:=he
 refine qA (fun g=>?_) (fun g=>?_)
 ·have g:(0:Int)<=n:=g
  exact AL _ rfl rfl (Af (qE (hn.1 g)).symm)
 ·have g:¬ (0:Int)<=n:=g
  exact AL _ rfl rfl (Af (qF fun h=>g (hn.2 h)).symm)
set_option maxHeartbeats 40000000
abbrev aRB:OT:=(.pure 0 (.pure 1 (.pure 2 (.pure 3 (.pure 4 (.A8 5 [] .fin .nil))))))
theorem Zg {ds:List De} {a:Nat} {es:List (List UInt8 × PV)} (l:List Ac) (h:ZZ ds a es) (d:De) (hr:∀ r∈d.refs,r.name ≠ []) (RU:d.refs.length<=100) (hl:l.length<=90000):A7 cx 185 [.ptr 0 0 0, .p d.pv] (GQ ds a es l) (nQ ds a es (l++Am (ds.take a) d [] d.refs)):=by
 obtain⟨dk,dn,AQ,Ab,AJ,AZ⟩:=d
 have RU:AJ.length<=100:=RU
 have hr:∀ r∈AJ,r.name ≠ []:=hr
 obtain⟨R,hR⟩:∃ R,R=l++Am (ds.take a) ⟨dk,dn,AQ,Ab,AJ,AZ⟩ [] AJ:=MX
 show A7 cx _ _ _ (nQ ds a es (l++Am (ds.take a) ⟨dk,dn,AQ,Ab,AJ,AZ⟩ [] AJ))
 rw [<- hR]
 refine holdsN_of_vc Tryz.func185 rfl rfl rfl ?_
 refine⟨Nat × List Ac,fun x=>[(0, .ptr 0 0 0),(3, .ptr 4 0 0),(8, .p (FX AJ)),(9, .p (i64 AJ.length)),(10, .p (i64 x.1))],fun x=>⟨5,[(4,Bl ⟨dk,dn,AQ,Ab,AJ,AZ⟩),(3,Bz x.2),(1,EX es),(0,Ej ds (a:Nat) 3 x.2.length)]⟩,fun x=>x.1<=AJ.length/\x.2.length<=l.length+2 * x.1/\R=x.2++Am (ds.take a) ⟨dk,dn,AQ,Ab,AJ,AZ⟩ (AJ.take x.1) (AJ.drop x.1),fun x=>AJ.length - x.1,?_,?_⟩
 ·exact⟨(0,l),⟨qL _,by simp,hR⟩,AA [] [(3,2),(4,3)] [] rfl ⟨MBW,MC,rfl,qH (fun n:Nat=>i64 n) (qB ..).symm,rfl,trivial⟩ (sk) rfl⟩
 rintro⟨k,cur⟩ ⟨k1,k2,k3⟩
 simp only [] at k1 k2 k3
 refine qA (fun m1=>?_) (fun m1=>?_)
 rotate_left
 ·have m1:¬ (k:Int)<(AJ.length:Nat):=m1
  rw [qb ME,Am,qU] at k3
  exact⟨[],[(3,3)],[], .returned Bv,VI ds a es cur,rfl,sk,sk,rfl,by rw [k3]⟩
 have m1:(k:Int)<(AJ.length:Nat):=m1
 have hk:k<AJ.length:=by omega
 have AO:=G7 hk
 have hxn:=hr _ (Aa Bu hk)
 have BJ:Am (ds.take a) ⟨dk,dn,AQ,Ab,AJ,AZ⟩ (AJ.take k) (AJ.drop k)=(if AJ.getD k Bu∈AJ.take k then [⟨2,a,(AJ.getD k Bu).name⟩] else [])++(Dm (IE (ds.take a) ⟨dk,dn,AQ,Ab,AJ,AZ⟩ (AJ.getD k Bu)) a (AJ.getD k Bu).name++Am (ds.take a) ⟨dk,dn,AQ,Ab,AJ,AZ⟩ (AJ.take (k+1)) (AJ.drop (k+1))):=by
  rw [EO Bu hk,Am,h.tk,AU Bu hk]
 generalize AJ.getD k Bu=x at AO hxn BJ
 have hC:=aHK (AJ.take k) x MEM
 have ea:[FX (AJ.take k),x.pv]=[PV.Ai 4 ((AJ.map Rf.cells).take ((k:Nat):Int).toNat),x.pv]:=by show [PV.Ai 4 ((AJ.take k).map Rf.cells),x.pv]=_;rw [jJ];rfl
 rw [ea] at hC
 refine⟨_,Ma,?_⟩
 refine AR aRB MK ?_
 refine⟨by show(0:Int)<=(k:Nat)/\((k:Nat):Int)<=((AJ.map Rf.cells).length:Nat);rw [qB];omega,?_⟩
 by_cases hm:x∈AJ.take k
 ·rw [qE hm] at hC
  rw [qM hm] at BJ
  refine hC.eq rfl ?_
  refine(Ic ds a es (cur) 2 x.name MBh).holds.BB [6] [(2,3)] rfl (sk) MBF fun e0 H0 hq=>?_
  obtain⟨rfl,rfl⟩:=hq
  refine⟨rfl,_,⟨8,(7,Bz ((cur)++[Ac.mk 2 (a:Nat) x.name]))::(1,EX es)::(0,Ej ds (a:Nat) 7 ((cur)++[Ac.mk 2 (a:Nat) x.name]).length)::[(6,dK x.name),(5,bL x),(4,Bl ⟨dk,dn,AQ,Ab,AJ,AZ⟩)]⟩,rfl,rfl,?_⟩
  refine(WL (cur++[Ac.mk 2 (a:Nat) x.name]) h ⟨dk,dn,AQ,Ab,AJ,AZ⟩ hxn).holds.BB [] [(2,7)] rfl (sk) (sk) fun e0 H0 hq=>?_
  obtain⟨rfl,rfl⟩:=hq
  refine⟨rfl,_,⟨8,(7,Bz (cur++[Ac.mk 2 (a:Nat) x.name]))::(1,EX es)::(0,Ej ds (a:Nat) 7 (cur++[Ac.mk 2 (a:Nat) x.name]).length)::[(6,dK x.name),(5,bL x),(4,Bl ⟨dk,dn,AQ,Ab,AJ,AZ⟩)]⟩,rfl,rfl,?_⟩
  refine And.intro (fun z=>?_) (fun z=>?_)
  ·have z:IE (ds.take a) ⟨dk,dn,AQ,Ab,AJ,AZ⟩ x=0:=z
   rw [z] at BJ
   refine MC8 ?_
   exact⟨(k+1,cur++[Ac.mk 2 (a:Nat) x.name]),⟨MGq,by show(cur++[Ac.mk 2 (a:Nat) x.name]).length<=l.length+2 * (k+1);(first | omega | (simp only [qD,qR,qy];omega)),by rw [k3];rw [BJ,qO];rfl⟩,AA [] [(3,7),(4,4)] [] rfl (sk) (sk) rfl,MEY⟩
  ·have z:¬ IE (ds.take a) ⟨dk,dn,AQ,Ab,AJ,AZ⟩ x=0:=z
   rw [Dm,qG z] at BJ
   generalize IE (ds.take a) ⟨dk,dn,AQ,Ab,AJ,AZ⟩ x=kk at BJ
   refine(Ic ds a es (cur++[Ac.mk 2 (a:Nat) x.name]) kk x.name MBh).holds.BB [8] [(2,7)] rfl (sk) MBF fun e0 H0 hq=>?_
   obtain⟨rfl,rfl⟩:=hq
   refine⟨rfl,_,⟨10,(9,Bz ((cur++[Ac.mk 2 (a:Nat) x.name])++[Ac.mk kk (a:Nat) x.name]))::(1,EX es)::(0,Ej ds (a:Nat) 9 ((cur++[Ac.mk 2 (a:Nat) x.name])++[Ac.mk kk (a:Nat) x.name]).length)::((8,dK x.name)::[(6,dK x.name),(5,bL x),(4,Bl ⟨dk,dn,AQ,Ab,AJ,AZ⟩)])⟩,rfl,rfl,?_⟩
   refine MC8 ?_
   exact⟨(k+1,(cur++[Ac.mk 2 (a:Nat) x.name])++[Ac.mk kk (a:Nat) x.name]),⟨MGq,by show((cur++[Ac.mk 2 (a:Nat) x.name])++[Ac.mk kk (a:Nat) x.name]).length<=l.length+2 * (k+1);(first | omega | (simp only [qD,qR,qy];omega)),by rw [k3];rw [BJ];simp [List.append_assoc]⟩,AA [] [(3,9),(4,4)] [] rfl (sk) (sk) rfl,MEY⟩
 ·rw [qF hm] at hC
  rw [qG hm] at BJ
  refine hC.eq rfl ?_
  refine(WL (cur) h ⟨dk,dn,AQ,Ab,AJ,AZ⟩ hxn).holds.BB [] [(2,3)] rfl (sk) (sk) fun e0 H0 hq=>?_
  obtain⟨rfl,rfl⟩:=hq
  refine⟨rfl,_,⟨6,(3,Bz (cur))::(1,EX es)::(0,Ej ds (a:Nat) 3 (cur).length)::[(5,bL x),(4,Bl ⟨dk,dn,AQ,Ab,AJ,AZ⟩)]⟩,rfl,rfl,?_⟩
  refine And.intro (fun z=>?_) (fun z=>?_)
  ·have z:IE (ds.take a) ⟨dk,dn,AQ,Ab,AJ,AZ⟩ x=0:=z
   rw [z] at BJ
   refine MC8 ?_
   exact⟨(k+1,cur),⟨MGq,by show(cur).length<=l.length+2 * (k+1);(first | omega | (simp only [qD,qR,qy];omega)),by rw [k3];rw [BJ];rfl⟩,AA [] [(3,3),(4,4)] [] rfl (sk) (sk) rfl,MEY⟩
  ·have z:¬ IE (ds.take a) ⟨dk,dn,AQ,Ab,AJ,AZ⟩ x=0:=z
   rw [Dm,qG z] at BJ
   generalize IE (ds.take a) ⟨dk,dn,AQ,Ab,AJ,AZ⟩ x=kk at BJ
   refine(Ic ds a es (cur) kk x.name MBh).holds.BB [6] [(2,3)] rfl (sk) MBF fun e0 H0 hq=>?_
   obtain⟨rfl,rfl⟩:=hq
   refine⟨rfl,_,⟨8,(7,Bz ((cur)++[Ac.mk kk (a:Nat) x.name]))::(1,EX es)::(0,Ej ds (a:Nat) 7 ((cur)++[Ac.mk kk (a:Nat) x.name]).length)::((6,dK x.name)::[(5,bL x),(4,Bl ⟨dk,dn,AQ,Ab,AJ,AZ⟩)])⟩,rfl,rfl,?_⟩
   refine MC8 ?_
   exact⟨(k+1,(cur)++[Ac.mk kk (a:Nat) x.name]),⟨MGq,by show((cur)++[Ac.mk kk (a:Nat) x.name]).length<=l.length+2 * (k+1);(first | omega | (simp only [qD,qR,qy];omega)),by rw [k3];rw [BJ];simp [List.append_assoc]⟩,AA [] [(3,7),(4,4)] [] rfl (sk) (sk) rfl,MEY⟩
theorem wU (l:List Int) (k:Nat) (h:k<l.length):(l.take (k+1)).sum=(l.take k).sum+l.getD k 0:=by
 rw [AU 0 h,List.sum_append];simp
theorem aOw (Ah:List Int) (n g:Int) (hw:∀ x∈Ah,-9999<=x/\x<=9999) (hl:Ah.length<=100):Pure cx 188 [ints Ah,i64 n,i64 g] (·=.ret [.bool (Ah.all (fun w=>decide (0<=w)) && (decide ((Ah.length:Int)=n) && decide (Ah.sum=g)))]):=by
 obtain⟨R,hR⟩:∃ R,R=(Ah.all (fun w=>decide (0<=w)) && (decide ((Ah.length:Int)=n) && decide (Ah.sum=g))):=MX
 rw [<- hR]
 have hm:(Ah.map i64).length=Ah.length:=qB ..
 refine pure_of_vc Tryz.func188 rfl rfl rfl ?_
 refine⟨Nat,fun k=>[(0, .p (ints Ah)),(1, .p (i64 n)),(2, .p (i64 g)),(7, .p (i64 (Ah.take k).sum)),(10, .p (ints Ah)),(11, .p (i64 Ah.length)),(12, .p (i64 k))],fun _=>⟨0,[]⟩,fun k=>k<=Ah.length/\(∀ x∈Ah.take k,0<=x)/\(Ah.take k).sum<=9999 * k/\0<=(Ah.take k).sum,fun k=>Ah.length - k,?_,?_⟩
 ·exact⟨0,MKa,AA [] [] [] rfl ⟨rfl,rfl,rfl,rfl,rfl,qH (fun n:Nat=>i64 n) hm.symm,rfl,trivial⟩ trivial rfl⟩
 rintro k ⟨k1,k2,k3,k4⟩
 refine qA (fun m1=>?_) (fun m1=>?_)
 ·have m1:(k:Int)<(Ah.length:Nat):=m1
  have hk:k<Ah.length:=by omega
  have hc:=Ff hk
  have hx:=hw _ (Aa 0 hk)
  have hs:=wU Ah k hk
  have Dy:=Aa 0 hk
  have Ch:∀ y∈Ah.take (k+1),y=Ah.getD k 0∨y∈Ah.take k:=fun y hy=>by
   rw [AU 0 hk] at hy
   exact MJP
  generalize Ah.getD k 0=x at hc hx hs Dy Ch
  refine⟨_,MHr,?_⟩
  refine qA (fun w1=>?_) (fun w1=>?_)
  ·exact MGx
  have w1:¬ x<0:=w1
  refine⟨(Ah.take (k+1)).sum,by rw [hs];exact wrap_i64 MBc ME,?_⟩
  refine MAs ?_
  refine⟨k+1,⟨by omega,fun y hy=>?_,by rw [hs];omega,MKZ⟩,AA [] [] [] rfl (sk) trivial rfl,MEX⟩
  rcases Ch y hy with rfl | hy
  ·omega
  ·exact k2 y hy
 have m1:¬ (k:Int)<(Ah.length:Nat):=m1
 rw [Ar ME] at k2
 have ha:Ah.all (fun w=>decide (0<=w))=true:=qi.2 fun x hx=>qE (k2 x hx)
 rw [ha] at hR
 refine qA (fun e1=>?_) (fun e1=>?_)
 rotate_left
 ·have e1:¬ ((Ah.map i64).length:Int)=n:=e1
  exact MJ2
 have e1:((Ah.map i64).length:Int)=n:=e1
 exact MCp
end Go.Proofs.YtkegmchjobphdaaGreatDoor
namespace Go.Proofs.YtkegmchjobphdaaGreatDoor
open Go Y
set_option maxRecDepth 100000
set_option maxHeartbeats 40000000
def fnW:AV:=.fn (.func 219) [] [.ptr 5 0 0, .ptr 3 0 0, .ptr 4 0 0]
def cbO:Ag:=⟨208,false, .bx [.ptr 0 0 0]⟩
def fwO:Ag:=⟨304,false, .bx [fnW]⟩
abbrev wkS (ds:List De) (a:Nat) (es:List (List UInt8 × PV)) (d:De) (l:List Ac):Hp:=⟨6,[(5,fwO),(4,Bl d),(3,cbO),(2,Bz l),(1,EX es),(0,Ej ds (a:Nat) 2 l.length)]⟩
abbrev wkT (ds:List De) (a:Nat) (es:List (List UInt8 × PV)) (d:De) (l:List Ac):Hp:=⟨7,[(6,Bz l),(5,fwO),(4,Bl d),(3,cbO),(1,EX es),(0,Ej ds (a:Nat) 6 l.length)]⟩
def wQ (ds:List De) (a:Nat) (es:List (List UInt8 × PV)) (d:De) (l:List Ac) (e:AE) (H':Hp):Prop:=e=.returned Bv/\H'=wkT ds a es d l
mutual
def Tt:Cd->Prop
 | .mk op _ _ _ r st ar=>((ar=[]->op=0∨(r.name ≠ []/\(op=5->1<=st.length)/\st.length<=100))/\(op=0->ar=[]))/\ar.length<=100/\LY ar
def LY:List Cd->Prop
 | []=>True
 | c::r=>Tt c/\LY r
end
theorem VJ:∀ {l:List Cd} {c:Cd},LY l->c∈l->Tt c
 | [],_,_,h=>by cases h
 | x::l,c,hl,h=>by
  rw [LY] at hl
  rcases qw.1 h with rfl | h
  ·exact hl.1
  ·exact VJ hl.2 h
theorem aBM {ds:List De} {a:Nat} {es:List (List UInt8 × PV)} (h:ZZ ds a es) (d:De) (RU:d.refs.length<=100):∀ (m:Nat) (c:Cd) (l:List Ac),csz c<=m->Tt c->(l++CG (ds.take a) d c).length<=100000 ->
  A7 cx 219 [.p c.pv, .ptr 5 0 0, .ptr 3 0 0, .ptr 4 0 0] (wkS ds a es d l) (wQ ds a es d (l++CG (ds.take a) d c))
 | 0,c,_,hz,_,_=>by cases c;rw [csz] at hz;omega
 | m+1, .mk op n rel val r st ar,l,hz,hw,hl=>by
  have IH:=aBM h d RU m
  obtain⟨dk,dn,AQ,Ab,AJ,AZ⟩:=d
  have RU:AJ.length<=100:=RU
  rw [csz] at hz
  rw [Tt] at hw
  obtain⟨⟨w1,_⟩,w2,w3⟩:=hw
  have hC1:ar ≠ []->CG (ds.take a) ⟨dk,dn,AQ,Ab,AJ,AZ⟩ (.mk op n rel val r st ar)=Da (ds.take a) ⟨dk,dn,AQ,Ab,AJ,AZ⟩ ar:=fun hn=>by
   exact MJa
  have hC0:ar=[]->CG (ds.take a) ⟨dk,dn,AQ,Ab,AJ,AZ⟩ (.mk op n rel val r st ar)=if op=0 then [] else Dm (G6 (ds.take a) ⟨dk,dn,AQ,Ab,AJ,AZ⟩ op n val r st) a r.name:=fun hn=>by
   subst hn
   rw [CG,h.tk]
  obtain⟨R,hR⟩:∃ R,R=l++CG (ds.take a) ⟨dk,dn,AQ,Ab,AJ,AZ⟩ (.mk op n rel val r st ar):=MX
  rw [<- hR] at hl ⊢
  have IL:(Db ar).length=ar.length:=by rw [EI,qB]
  refine holdsN_of_vc Tryz.func219 rfl rfl rfl ?_
  refine⟨Nat × List Ac,fun x=>[(1, .ptr 5 0 0),(2, .ptr 3 0 0),(3, .ptr 4 0 0),(4, .ptr 7 0 0),(9, .p (.Ai 10 (Db ar))),(10, .p (i64 ar.length)),(11, .p (i64 x.1))],fun x=>⟨8,[(7,QC (.mk op n rel val r st ar)),(6,Bz x.2),(5,fwO),(4,Bl ⟨dk,dn,AQ,Ab,AJ,AZ⟩),(3,cbO),(1,EX es),(0,Ej ds (a:Nat) 6 x.2.length)]⟩,fun x=>x.1<=ar.length/\x.2++Da (ds.take a) ⟨dk,dn,AQ,Ab,AJ,AZ⟩ (ar.drop x.1)=l++Da (ds.take a) ⟨dk,dn,AQ,Ab,AJ,AZ⟩ ar,fun x=>ar.length - x.1,?_,?_⟩
  ·exact⟨(0,l),MGk,AA [] [(6,2),(7,6)] [] rfl ⟨MCW,MBt,MBW,MC,rfl,qH (fun n:Nat=>i64 n) IL.symm,rfl,trivial⟩ (sk) rfl⟩
  rintro⟨k,cur⟩ ⟨k1,k2⟩
  simp only [] at k1 k2
  refine qA (fun m1=>?_) (fun m1=>?_)
  ·have m1:(k:Int)<(ar.length:Nat):=m1
   have hk:k<ar.length:=by omega
   have ES:ar ≠ []:=fun e=>by rw [e] at hk;cases hk
   have AO:(Db ar)[k]?=some (ar.getD k Fy).cells:=by rw [EI];exact Gu hk
   have Dy:=Aa Fy hk
   have hsz:=nH Dy
   have hxw:=VJ w3 Dy
   rw [EO Fy hk,Da,<- qO] at k2
   have hlen:((cur++CG (ds.take a) ⟨dk,dn,AQ,Ab,AJ,AZ⟩ (ar.getD k Fy))++Da (ds.take a) ⟨dk,dn,AQ,Ab,AJ,AZ⟩ (ar.drop (k+1))).length<=100000:=by rw [k2,<- hC1 ES,<- hR];exact hl
   rw [qD] at hlen
   generalize ar.getD k Fy=x at AO hsz hxw k2 hlen
   obtain⟨xo,xn,xr,xv,xf,xs,xa⟩:=x
   refine⟨_,MH8,?_⟩
   refine(IH (.mk xo xn xr xv xf xs xa) cur MBc hxw ME).holds.BB [] [(2,6)] rfl (sk) (sk) fun e0 H0 hq=>?_
   obtain⟨rfl,rfl⟩:=hq
   generalize cur++CG (ds.take a) ⟨dk,dn,AQ,Ab,AJ,AZ⟩ (.mk xo xn xr xv xf xs xa)=Ex at k2 hlen ⊢
   refine⟨rfl,_,⟨10,(9,Bz Ex)::(5,fwO)::(4,Bl ⟨dk,dn,AQ,Ab,AJ,AZ⟩)::(3,cbO)::(1,EX es)::(0,Ej ds (a:Nat) 9 Ex.length)::[(8,QC (.mk xo xn xr xv xf xs xa)),(7,QC (.mk op n rel val r st ar))]⟩,rfl,rfl,?_⟩
   refine MC8 ?_
   exact⟨(k+1,Ex),⟨MI6,k2⟩,AA [] [(6,9),(7,7)] [] rfl (sk) (sk) rfl,MEs⟩
  have m1:¬ (k:Int)<(ar.length:Nat):=m1
  rw [qb ME,Da,qU] at k2
  refine qA (fun o0=>?_) (fun o0=>?_)
  ·have o0:op=0:=o0
   have hRc:R=cur:=by
    by_cases hn:ar=[]
    ·rw [hR,hC0 hn,qM o0,k2,hn,Da]
    ·rw [hR,hC1 hn,k2]
   exact MFH
  have o0:¬ op=0:=o0
  refine qA (fun g1=>?_) (fun g1=>?_)
  ·have g1:(0:Int)<((Db ar).length:Nat):=g1
   rw [IL] at g1
   have hRc:R=cur:=by rw [hR,hC1 (fun e=>by rw [e] at g1;exact absurd g1 ML),k2]
   exact MFH
  have g1:¬ (0:Int)<((Db ar).length:Nat):=g1
  rw [IL] at g1
  have hn:ar=[]:=qY ME
  have hw:=(w1 hn).resolve_left o0
  rw [hn,Da,qU] at k2
  rw [hC0 hn,qG o0,<- k2] at hR
  have aSM:cur.length<=100000:=ME6
  refine(aHJ (op:=op) (n:=n) (rel:=rel) (val:=val) (r:=r) (st:=st) (ar:=ar) cur h ⟨dk,dn,AQ,Ab,AJ,AZ⟩ hw.1 hw.2.1 hw.2.2 RU).holds.BB [] [(2,6)] rfl (sk) (sk) fun e0 H0 hq=>?_
  obtain⟨rfl,rfl⟩:=hq
  generalize G6 (ds.take a) ⟨dk,dn,AQ,Ab,AJ,AZ⟩ op n val r st=kk at hR
  refine⟨rfl,_,⟨8,(6,Bz cur)::(1,EX es)::(0,Ej ds (a:Nat) 6 cur.length)::[(7,QC (.mk op n rel val r st ar)),(5,fwO),(4,Bl ⟨dk,dn,AQ,Ab,AJ,AZ⟩),(3,cbO)]⟩,rfl,rfl,?_⟩
  refine And.intro (fun z=>?_) (fun z=>?_)
  ·have z:kk=0:=z
   rw [Dm,qM z,qU] at hR
   exact⟨[],[(6,6)],[], .returned Bv,wkT ds a es ⟨dk,dn,AQ,Ab,AJ,AZ⟩ (cur),rfl,sk,sk,rfl,MJD⟩
  ·have z:¬ kk=0:=z
   rw [Dm,qG z] at hR
   refine(Ic ds a es (cur) kk r.name MBh).holds.BB [8] [(2,6)] rfl (sk) MBF fun e0 H0 hq=>?_
   obtain⟨rfl,rfl⟩:=hq
   refine⟨rfl,_,⟨10,(9,Bz ((cur)++[Ac.mk kk (a:Nat) r.name]))::(1,EX es)::(0,Ej ds (a:Nat) 9 ((cur)++[Ac.mk kk (a:Nat) r.name]).length)::[(8,dK r.name),(7,QC (.mk op n rel val r st ar)),(5,fwO),(4,Bl ⟨dk,dn,AQ,Ab,AJ,AZ⟩),(3,cbO)]⟩,rfl,rfl,?_⟩
   exact⟨[],[(6,9)],[], .returned Bv,wkT ds a es ⟨dk,dn,AQ,Ab,AJ,AZ⟩ (cur++[Ac.mk kk (a:Nat) r.name]),rfl,sk,sk,rfl,MJD⟩
end Go.Proofs.YtkegmchjobphdaaGreatDoor
namespace Go.Proofs.YtkegmchjobphdaaGreatDoor
open Go Y
set_option maxRecDepth 100000
set_option maxHeartbeats 40000000
def rD (g:Int):Ag:=⟨aAd,false, .bx [.p (i64 g)]⟩
def kcO (c:Cs):Ag:=⟨aCA,false, .bx (c.cells.map .p)⟩
theorem gp {d:De} {Ah:List Int} {g:Int} (h:¬ d.kind=5):KT d Ah g=(Ah.all (fun w=>decide (0<=w)) && (decide ((Ah.length:Int)=d.n) && decide (Ah.sum=g))):=by rw [KT,qG h]
theorem gq {d:De} {Ah:List Int} {g:Int} (h:d.kind=5):KT d Ah g=(decide (Ah.length=1) && (decide (-100<=Ah.getD 0 0) && decide (Ah.getD 0 0<=100))):=by rw [KT,qM h]
structure aEk (c:Cs):Prop where
 cond:Tt c.cond
 Ah:∀ x∈c.Ah,-9999<=x/\x<=9999
 len:c.Ah.length<=100
def rwQ (d:De) (g:Int) (b:Bool) (e:AE) (H':Hp):Prop:=e=.returned (.p (.bool b))/\H'=⟨2,[(1,rD g),(0,Bl d)]⟩
theorem aJ9 (d:De) (g:Int) (Ah:List Int) (hw:∀ x∈Ah,-9999<=x/\x<=9999) (hl:Ah.length<=100) (hk:¬ d.kind=5):A7 cx 187 [.p (ints Ah), .ptr 0 0 0, .ptr 1 0 0] ⟨2,[(1,rD g),(0,Bl d)]⟩ (rwQ d g (KT d Ah g)):=by
 have hr:=aOw Ah d.n g hw hl
 rw [<- gp hk] at hr
 obtain⟨dk,dn,AQ,Ab,AJ,AZ⟩:=d
 generalize KT ⟨dk,dn,AQ,Ab,AJ,AZ⟩ Ah g=b at hr
 refine holdsN_of_vc Tryz.func187 rfl rfl rfl ?_
 refine hr.eq rfl ?_
 exact⟨[],[],[], .returned (.p (.bool b)),⟨2,[(1,rD g),(0,Bl ⟨dk,dn,AQ,Ab,AJ,AZ⟩)]⟩,rfl,sk,sk,rfl,rfl⟩
theorem aKA (d:De) (g:Int) (Ah:List Int) (hk:d.kind=5):Pure cx 189 [ints Ah] (·=.ret [.bool (KT d Ah g)]):=by
 obtain⟨R,hR⟩:∃ R,R=KT d Ah g:=MX
 rw [<- hR]
 rw [gq hk] at hR
 have hm:(Ah.map i64).length=Ah.length:=qB ..
 refine pure_of_vc Tryz.func189 rfl rfl rfl ?_
 exact MBJ
theorem Gf (L:List De) (d:De) (g:Int) (c:Cs) (cs:List Cs):Bd L d g (c::cs)=(CG L d c.cond++(if KT d c.Ah g then [] else [⟨9,L.length,[]⟩]))++Bd L d g cs:=by rw [Bd,xe];rfl
abbrev cgS (ds:List De) (a:Nat) (es:List (List UInt8 × PV)) (d:De) (g:Int) (l:List Ac):Hp:=⟨5,[(4,rD g),(3,Bl d),(2,Bz l),(1,EX es),(0,Ej ds (a:Nat) 2 l.length)]⟩
abbrev cgT (ds:List De) (a:Nat) (es:List (List UInt8 × PV)) (d:De) (g:Int) (l:List Ac):Hp:=⟨6,[(5,Bz l),(4,rD g),(3,Bl d),(1,EX es),(0,Ej ds (a:Nat) 5 l.length)]⟩
def cgQ (ds:List De) (a:Nat) (es:List (List UInt8 × PV)) (d:De) (g:Int) (l:List Ac) (e:AE) (H':Hp):Prop:=e=.returned Bv/\H'=cgT ds a es d g l
theorem aHI {ds:List De} {a:Nat} {es:List (List UInt8 × PV)} (l:List Ac) (h:ZZ ds a es) (d:De) (g:Int) (hk:¬ d.kind=5) (RU:d.refs.length<=100) (IL:d.cases.length<=100) (hc:∀ c∈d.cases,aEk c) (hl:(l++Bd (ds.take a) d g d.cases).length<=100000) :
  A7 cx 186 [.ptr 0 0 0, .p d.pv, .fn (.func 187) [] [.ptr 3 0 0, .ptr 4 0 0]] (cgS ds a es d g l) (cgQ ds a es d g (l++Bd (ds.take a) d g d.cases)):=by
 obtain⟨dk,dn,AQ,Ab,AJ,AZ⟩:=d
 have RU:AJ.length<=100:=RU
 have IL:AZ.length<=100:=IL
 have hc:∀ c∈AZ,aEk c:=hc
 have hl:(l++Bd (ds.take a) ⟨dk,dn,AQ,Ab,AJ,AZ⟩ g AZ).length<=100000:=hl
 obtain⟨R,hR⟩:∃ R,R=l++Bd (ds.take a) ⟨dk,dn,AQ,Ab,AJ,AZ⟩ g AZ:=MX
 show A7 cx _ _ _ (cgQ ds a es ⟨dk,dn,AQ,Ab,AJ,AZ⟩ g (l++Bd (ds.take a) ⟨dk,dn,AQ,Ab,AJ,AZ⟩ g AZ))
 rw [<- hR] at hl ⊢
 have hm:(AZ.map Cs.cells).length=AZ.length:=qB ..
 refine holdsN_of_vc Tryz.func186 rfl rfl rfl ?_
 refine⟨Nat × List Ac,fun x=>[(2, .fn (.func 187) [] [.ptr 3 0 0, .ptr 4 0 0]),(3, .ptr 6 0 0),(4, .ptr 7 0 0),(6, .ptr 8 0 0),(11, .p (OI AZ)),(12, .p (i64 AZ.length)),(13, .p (i64 x.1))],fun x=>⟨9,[(8,⟨304,false, .bx [.fn (.func 219) [] [.ptr 8 0 0, .ptr 6 0 0, .ptr 7 0 0]]⟩),(7,Bl ⟨dk,dn,AQ,Ab,AJ,AZ⟩),(6,cbO),(5,Bz x.2),(4,rD g),(3,Bl ⟨dk,dn,AQ,Ab,AJ,AZ⟩),(1,EX es),(0,Ej ds (a:Nat) 5 x.2.length)]⟩,fun x=>x.1<=AZ.length/\x.2++Bd (ds.take a) ⟨dk,dn,AQ,Ab,AJ,AZ⟩ g (AZ.drop x.1)=R,fun x=>AZ.length - x.1,?_,?_⟩
 ·exact⟨(0,l),⟨qL _,hR.symm⟩,AA [] [(5,2),(6,5),(7,6),(8,7)] [] rfl ⟨sk,MBt,MBW,MC,rfl,qH (fun n:Nat=>i64 n) hm.symm,rfl,trivial⟩ (sk) rfl⟩
 rintro⟨k,cur⟩ ⟨k1,k2⟩
 simp only [] at k1 k2
 refine qA (fun m1=>?_) (fun m1=>?_)
 rotate_left
 ·have m1:¬ (k:Int)<(AZ.length:Nat):=m1
  rw [qb ME,show Bd (ds.take a) ⟨dk,dn,AQ,Ab,AJ,AZ⟩ g []=[] from rfl,qU] at k2
  exact⟨[],[(5,5)],[], .returned Bv,cgT ds a es ⟨dk,dn,AQ,Ab,AJ,AZ⟩ g cur,rfl,sk,sk,rfl,by rw [<- k2]⟩
 have m1:(k:Int)<(AZ.length:Nat):=m1
 have V6:k<AZ.length:=by omega
 have AO:=RF V6
 have hx:=hc _ (Aa IM V6)
 rw [EO IM V6,Gf,h.tk] at k2
 generalize AZ.getD k IM=x at AO hx k2
 obtain⟨⟨xo,xn,xr,xv,xf,xs,xa⟩,xw⟩:=x
 obtain⟨x1,x2,x3⟩:=hx
 simp only [] at x1 x2 x3 k2
 have hlen:=hl
 rw [<- k2,qD,qD,qD] at hlen
 refine⟨_,MAH,?_⟩
 refine(aBM h ⟨dk,dn,AQ,Ab,AJ,AZ⟩ RU _ (.mk xo xn xr xv xf xs xa) cur (qN _) x1 MEw).holds.BB [] [(2,5),(3,6),(4,7),(5,8)] rfl (sk) (sk) fun e0 H0 hq=>?_
 obtain⟨rfl,rfl⟩:=hq
 rw [<- qO,<- qO] at k2
 have BF:(cur++CG (ds.take a) ⟨dk,dn,AQ,Ab,AJ,AZ⟩ (.mk xo xn xr xv xf xs xa)).length<=100000:=MEw
 clear hlen
 generalize cur++CG (ds.take a) ⟨dk,dn,AQ,Ab,AJ,AZ⟩ (.mk xo xn xr xv xf xs xa)=Ex at k2 BF ⊢
 refine⟨rfl,_,⟨11,(10,Bz Ex)::(8,⟨304,false, .bx [.fn (.func 219) [] [.ptr 8 0 0, .ptr 6 0 0, .ptr 7 0 0]]⟩)::(7,Bl ⟨dk,dn,AQ,Ab,AJ,AZ⟩)::(6,cbO)::(1,EX es)::(0,Ej ds (a:Nat) 10 Ex.length)::[(9,kcO ⟨.mk xo xn xr xv xf xs xa,xw⟩),(4,rD g),(3,Bl ⟨dk,dn,AQ,Ab,AJ,AZ⟩)]⟩,rfl,rfl,?_⟩
 have hr:=aJ9 ⟨dk,dn,AQ,Ab,AJ,AZ⟩ g xw x2 x3 hk
 by_cases Jt:KT ⟨dk,dn,AQ,Ab,AJ,AZ⟩ xw g=true
 ·rw [Jt] at hr k2
  rw [qM rfl,qU] at k2
  refine hr.holds.BB [] [(0,3),(1,4)] rfl (sk) (sk) fun e0 H0 hq=>?_
  obtain⟨rfl,rfl⟩:=hq
  refine MCj ?_
  refine MC8 ?_
  exact⟨(k+1,Ex),MEZ,AA [] [(5,10),(6,6),(7,7),(8,8)] [] rfl MJp (sk) rfl,MHC⟩
 ·rw [qQ] at Jt
  rw [Jt] at hr k2
  rw [qG ML] at k2
  refine hr.holds.BB [] [(0,3),(1,4)] rfl (sk) (sk) fun e0 H0 hq=>?_
  obtain⟨rfl,rfl⟩:=hq
  refine MCj ?_
  refine(Qo ds a es (Ex) 9 MBh).holds.BB [] [(2,10)] rfl (sk) (sk) fun e0 H0 hq=>?_
  obtain⟨rfl,rfl⟩:=hq
  refine⟨rfl,_,⟨12,(11,Bz ((Ex)++[Ac.mk 9 (a:Nat) []]))::(1,EX es)::(0,Ej ds (a:Nat) 11 ((Ex)++[Ac.mk 9 (a:Nat) []]).length)::[(4,rD g),(3,Bl ⟨dk,dn,AQ,Ab,AJ,AZ⟩),(8,⟨304,false, .bx [.fn (.func 219) [] [.ptr 8 0 0, .ptr 6 0 0, .ptr 7 0 0]]⟩),(7,Bl ⟨dk,dn,AQ,Ab,AJ,AZ⟩),(6,cbO),(9,kcO ⟨.mk xo xn xr xv xf xs xa,xw⟩)]⟩,rfl,rfl,?_⟩
  refine MC8 ?_
  exact⟨(k+1,Ex++[Ac.mk 9 (a:Nat) []]),MEZ,AA [] [(5,11),(6,6),(7,7),(8,8)] [] rfl MJp (sk) rfl,MHC⟩
theorem aHH {ds:List De} {a:Nat} {es:List (List UInt8 × PV)} (l:List Ac) (h:ZZ ds a es) (d:De) (g:Int) (hk:d.kind=5) (RU:d.refs.length<=100) (IL:d.cases.length<=100) (hc:∀ c∈d.cases,aEk c) (hl:(l++Bd (ds.take a) d g d.cases).length<=100000) :
  A7 cx 186 [.ptr 0 0 0, .p d.pv, .p (.fn (.func 189) [] [])] (GQ ds a es l) (nQ ds a es (l++Bd (ds.take a) d g d.cases)):=by
 obtain⟨dk,dn,AQ,Ab,AJ,AZ⟩:=d
 have RU:AJ.length<=100:=RU
 have IL:AZ.length<=100:=IL
 have hc:∀ c∈AZ,aEk c:=hc
 have hl:(l++Bd (ds.take a) ⟨dk,dn,AQ,Ab,AJ,AZ⟩ g AZ).length<=100000:=hl
 obtain⟨R,hR⟩:∃ R,R=l++Bd (ds.take a) ⟨dk,dn,AQ,Ab,AJ,AZ⟩ g AZ:=MX
 show A7 cx _ _ _ (nQ ds a es (l++Bd (ds.take a) ⟨dk,dn,AQ,Ab,AJ,AZ⟩ g AZ))
 rw [<- hR] at hl ⊢
 have hm:(AZ.map Cs.cells).length=AZ.length:=qB ..
 refine holdsN_of_vc Tryz.func186 rfl rfl rfl ?_
 refine⟨Nat × List Ac,fun x=>[(2, .p (.fn (.func 189) [] [])),(3, .ptr 4 0 0),(4, .ptr 5 0 0),(6, .ptr 6 0 0),(11, .p (OI AZ)),(12, .p (i64 AZ.length)),(13, .p (i64 x.1))],fun x=>⟨7,[(6,⟨304,false, .bx [.fn (.func 219) [] [.ptr 6 0 0, .ptr 4 0 0, .ptr 5 0 0]]⟩),(5,Bl ⟨dk,dn,AQ,Ab,AJ,AZ⟩),(4,cbO),(3,Bz x.2),(1,EX es),(0,Ej ds (a:Nat) 3 x.2.length)]⟩,fun x=>x.1<=AZ.length/\x.2++Bd (ds.take a) ⟨dk,dn,AQ,Ab,AJ,AZ⟩ g (AZ.drop x.1)=R,fun x=>AZ.length - x.1,?_,?_⟩
 ·exact⟨(0,l),⟨qL _,hR.symm⟩,AA [] [(3,2),(4,3),(5,4),(6,5)] [] rfl ⟨rfl,MBt,MBW,MC,rfl,qH (fun n:Nat=>i64 n) hm.symm,rfl,trivial⟩ (sk) rfl⟩
 rintro⟨k,cur⟩ ⟨k1,k2⟩
 simp only [] at k1 k2
 refine qA (fun m1=>?_) (fun m1=>?_)
 rotate_left
 ·have m1:¬ (k:Int)<(AZ.length:Nat):=m1
  rw [qb ME,show Bd (ds.take a) ⟨dk,dn,AQ,Ab,AJ,AZ⟩ g []=[] from rfl,qU] at k2
  exact⟨[],[(3,3)],[], .returned Bv,VI ds a es cur,rfl,sk,sk,rfl,by rw [<- k2]⟩
 have m1:(k:Int)<(AZ.length:Nat):=m1
 have V6:k<AZ.length:=by omega
 have AO:=RF V6
 have hx:=hc _ (Aa IM V6)
 rw [EO IM V6,Gf,h.tk] at k2
 generalize AZ.getD k IM=x at AO hx k2
 obtain⟨⟨xo,xn,xr,xv,xf,xs,xa⟩,xw⟩:=x
 obtain⟨x1,x2,x3⟩:=hx
 simp only [] at x1 x2 x3 k2
 have hlen:=hl
 rw [<- k2,qD,qD,qD] at hlen
 refine⟨_,MAH,?_⟩
 refine(aBM h ⟨dk,dn,AQ,Ab,AJ,AZ⟩ RU _ (.mk xo xn xr xv xf xs xa) cur (qN _) x1 MEw).holds.BB [] [(2,3),(3,4),(4,5),(5,6)] rfl (sk) (sk) fun e0 H0 hq=>?_
 obtain⟨rfl,rfl⟩:=hq
 rw [<- qO,<- qO] at k2
 have BF:(cur++CG (ds.take a) ⟨dk,dn,AQ,Ab,AJ,AZ⟩ (.mk xo xn xr xv xf xs xa)).length<=100000:=MEw
 clear hlen
 generalize cur++CG (ds.take a) ⟨dk,dn,AQ,Ab,AJ,AZ⟩ (.mk xo xn xr xv xf xs xa)=Ex at k2 BF ⊢
 refine⟨rfl,_,⟨9,(8,Bz Ex)::(6,⟨304,false, .bx [.fn (.func 219) [] [.ptr 6 0 0, .ptr 4 0 0, .ptr 5 0 0]]⟩)::(5,Bl ⟨dk,dn,AQ,Ab,AJ,AZ⟩)::(4,cbO)::(1,EX es)::(0,Ej ds (a:Nat) 8 Ex.length)::[(7,kcO ⟨.mk xo xn xr xv xf xs xa,xw⟩)]⟩,rfl,rfl,?_⟩
 have hr:=aKA ⟨dk,dn,AQ,Ab,AJ,AZ⟩ g xw hk
 by_cases Jt:KT ⟨dk,dn,AQ,Ab,AJ,AZ⟩ xw g=true
 ·rw [Jt] at hr k2
  rw [qM rfl,qU] at k2
  refine hr.eq rfl ?_
  refine MC8 ?_
  exact⟨(k+1,Ex),MEZ,AA [] [(3,8),(4,4),(5,5),(6,6)] [] rfl MJf (sk) rfl,MHC⟩
 ·rw [qQ] at Jt
  rw [Jt] at hr k2
  rw [qG ML] at k2
  refine hr.eq rfl ?_
  refine(Qo ds a es (Ex) 9 MBh).holds.BB [] [(2,8)] rfl (sk) (sk) fun e0 H0 hq=>?_
  obtain⟨rfl,rfl⟩:=hq
  refine⟨rfl,_,⟨10,(9,Bz ((Ex)++[Ac.mk 9 (a:Nat) []]))::(1,EX es)::(0,Ej ds (a:Nat) 9 ((Ex)++[Ac.mk 9 (a:Nat) []]).length)::[(6,⟨304,false, .bx [.fn (.func 219) [] [.ptr 6 0 0, .ptr 4 0 0, .ptr 5 0 0]]⟩),(5,Bl ⟨dk,dn,AQ,Ab,AJ,AZ⟩),(4,cbO),(7,kcO ⟨.mk xo xn xr xv xf xs xa,xw⟩)]⟩,rfl,rfl,?_⟩
  refine MC8 ?_
  exact⟨(k+1,Ex++[Ac.mk 9 (a:Nat) []]),MEZ,AA [] [(3,9),(4,4),(5,5),(6,6)] [] rfl MJf (sk) rfl,MHC⟩
structure aJ8 (d:De):Prop where
 ok:bH d
 refs:d.refs.length<=100
 len:d.cases.length<=100
 cases:∀ c∈d.cases,aEk c
theorem aG9 {ds:List De} {a:Nat} {es:List (List UInt8 × PV)} (l:List Ac) (h:ZZ ds a es) (d:De) (hk:d.kind=1) (hl:(l++Dx (ds.take a) d (BD ds)).length<=90000):A7 cx 133 [.ptr 0 0 0, .p d.pv] (GQ ds a es l) (nQ ds a es (l++Dx (ds.take a) d (BD ds))):=by
 obtain⟨R,hR⟩:∃ R,R=l++Dx (ds.take a) d (BD ds):=MX
 rw [<- hR] at hl ⊢
 rw [Dx,qM hk,h.tk] at hR
 have hl1:l.length<=90000:=ME6
 obtain⟨dk,dn,AQ,Ab,AJ,AZ⟩:=d
 simp only [] at hR
 refine holdsN_of_vc Tryz.func133 rfl rfl rfl ?_
 refine qA (fun h0=>?_) (fun h0=>?_)
 ·have h0:(0:Int)<(a:Nat):=h0
  rw [qM (.inl ME)] at hR
  exact Ms
 have h0:¬ (0:Int)<(a:Nat):=h0
 refine qA (fun h1=>?_) (fun h1=>?_)
 ·have h1:dn<1:=h1
  rw [qM (.inr (.inl h1))] at hR
  exact Ms
 have h1:¬ dn<1:=h1
 refine qA (fun h2=>?_) (fun h2=>?_)
 ·have h2:60<dn:=h2
  rw [qM (.inr (.inr h2))] at hR
  exact Ms
 ·have h2:¬ 60<dn:=h2
  exact MGN
theorem aHA {ds:List De} {a:Nat} {es:List (List UInt8 × PV)} (l:List Ac) (h:ZZ ds a es) (d:De) (hd:bH d) (hk:d.kind=2) (hl:(l++Dx (ds.take a) d (BD ds)).length<=90000):A7 cx 134 [.ptr 0 0 0, .p d.pv] (GQ ds a es l) (nQ ds a es (l++Dx (ds.take a) d (BD ds))):=by
 obtain⟨R,hR⟩:∃ R,R=l++Dx (ds.take a) d (BD ds):=MX
 rw [<- hR] at hl ⊢
 rw [Dx,qG ME,qM hk,<- qO,h.tk] at hR
 have hl1:(l++Cc (ds.take a) d).length<=90000:=ME6
 have hl2:l.length<=90000:=MKP
 have hT:=nG l h d (hd.name (.inl hk)) ME
 obtain⟨dk,dn,AQ,Ab,AJ,AZ⟩:=d
 generalize l++Cc (ds.take a) ⟨dk,dn,AQ,Ab,AJ,AZ⟩=L1 at hT hR hl1
 simp only [] at hR hT
 refine holdsN_of_vc Tryz.func134 rfl rfl rfl ?_
 refine(hT).holds.BB [] [] rfl (sk) (sk) fun e0 H0 hq=>?_
 obtain⟨rfl,rfl⟩:=hq
 refine MAV ?_
 refine qA (fun h1=>?_) (fun h1=>?_)
 ·have h1:dn<1:=h1
  rw [qM (.inl h1)] at hR
  exact MB8
 have h1:¬ dn<1:=h1
 refine qA (fun h2=>?_) (fun h2=>?_)
 ·have h2:6<dn:=h2
  rw [qM (.inr h2)] at hR
  exact MB8
 ·have h2:¬ 6<dn:=h2
  rw [qG ME,qU] at hR
  exact⟨[],[(3,4)],[], .returned Bv,VI ds a es (L1),rfl,sk,sk,rfl,MJD⟩
theorem aEi {ds:List De} {a:Nat} {es:List (List UInt8 × PV)} (l:List Ac) (h:ZZ ds a es) (d:De) (hd:aJ8 d) (hk:d.kind=4) (hl:(l++Dx (ds.take a) d (BD ds)).length<=90000):A7 cx 136 [.ptr 0 0 0, .p d.pv] (GQ ds a es l) (nQ ds a es (l++Dx (ds.take a) d (BD ds))):=by
 obtain⟨R,hR⟩:∃ R,R=l++Dx (ds.take a) d (BD ds):=MX
 rw [<- hR] at hl ⊢
 rw [Dx,qG MDV,qG MBc,qG ME,qM hk,<- qO,<- qO] at hR
 have hl1:((l++Cc (ds.take a) d)++BK (ds.take a) d).length<=90000:=ME6
 have hl2:(l++Cc (ds.take a) d).length<=90000:=MKP
 have hl3:l.length<=90000:=by rw [qD] at hl2;omega
 have hT:=nG l h d (hd.ok.name (.inr (.inr hk))) ME
 have hC:=aHG (l++Cc (ds.take a) d) h d ME
 have hF:=Zg ((l++Cc (ds.take a) d)++BK (ds.take a) d) h d hd.ok.refs hd.refs ME
 rw [<- hR] at hF
 generalize (l++Cc (ds.take a) d)++BK (ds.take a) d=L2 at hC hF hl1
 generalize l++Cc (ds.take a) d=L1 at hT hC hl2
 clear hR hd hk
 obtain⟨dk,dn,AQ,Ab,AJ,AZ⟩:=d
 refine holdsN_of_vc Tryz.func136 rfl rfl rfl ?_
 refine(hT).holds.BB [] [] rfl (sk) (sk) fun e0 H0 hq=>?_
 obtain⟨rfl,rfl⟩:=hq
 refine MAV ?_
 refine(hC).holds.BB [] [(2,4)] rfl (sk) (sk) fun e0 H0 hq=>?_
 obtain⟨rfl,rfl⟩:=hq
 refine⟨rfl,_,⟨6,(5,Bz (L2))::(1,EX es)::(0,Ej ds (a:Nat) 5 (L2).length)::[(3,Bl ⟨dk,dn,AQ,Ab,AJ,AZ⟩)]⟩,rfl,rfl,?_⟩
 refine(hF).holds.BB [] [(2,5)] rfl (sk) (sk) fun e0 H0 hq=>?_
 obtain⟨rfl,rfl⟩:=hq
 refine⟨rfl,_,⟨7,(6,Bz (R))::(1,EX es)::(0,Ej ds (a:Nat) 6 (R).length)::[(3,Bl ⟨dk,dn,AQ,Ab,AJ,AZ⟩)]⟩,rfl,rfl,?_⟩
 exact⟨[],[(3,6)],[], .returned Bv,VI ds a es R,rfl,sk,sk,rfl,rfl⟩
theorem aJ6 {ds:List De} {a:Nat} {es:List (List UInt8 × PV)} (l:List Ac) (h:ZZ ds a es) (d:De) (hd:aJ8 d) (hk:d.kind=5) (hl:(l++Dx (ds.take a) d (BD ds)).length<=90000):A7 cx 137 [.ptr 0 0 0, .p d.pv] (GQ ds a es l) (nQ ds a es (l++Dx (ds.take a) d (BD ds))):=by
 obtain⟨R,hR⟩:∃ R,R=l++Dx (ds.take a) d (BD ds):=MX
 rw [<- hR] at hl ⊢
 rw [Dx,qG MI8,qG MDV,qG MBc,qG ME,<- qO] at hR
 have hl1:(l++Am (ds.take a) d [] d.refs).length<=90000:=ME6
 have hl3:l.length<=90000:=MKP
 have hF:=Zg l h d hd.ok.refs hd.refs ME
 have hC:=aHH (l++Am (ds.take a) d [] d.refs) h d (BD ds) hk hd.refs hd.len hd.cases (by rw [<- hR];omega)
 rw [<- hR] at hC
 generalize l++Am (ds.take a) d [] d.refs=L1 at hC hF hl1
 clear hR hd hk
 obtain⟨dk,dn,AQ,Ab,AJ,AZ⟩:=d
 refine holdsN_of_vc Tryz.func137 rfl rfl rfl ?_
 refine(hF).holds.BB [] [] rfl (sk) (sk) fun e0 H0 hq=>?_
 obtain⟨rfl,rfl⟩:=hq
 refine MAV ?_
 refine(hC).holds.BB [] [(2,4)] rfl (sk) (sk) fun e0 H0 hq=>?_
 obtain⟨rfl,rfl⟩:=hq
 refine⟨rfl,_,⟨6,(5,Bz (R))::(1,EX es)::(0,Ej ds (a:Nat) 5 (R).length)::[(3,Bl ⟨dk,dn,AQ,Ab,AJ,AZ⟩)]⟩,rfl,rfl,?_⟩
 exact⟨[],[(3,5)],[], .returned Bv,VI ds a es R,rfl,sk,sk,rfl,rfl⟩
theorem aJ7 {ds:List De} {a:Nat} {es:List (List UInt8 × PV)} (l:List Ac) (h:ZZ ds a es) (d:De) (hd:aJ8 d) (hk:d.kind=3) (nC:1<=ds.length) (hl:(l++Dx (ds.take a) d (BD ds)).length<=90000):A7 cx 135 [.ptr 0 0 0, .p d.pv] (GQ ds a es l) (nQ ds a es (l++Dx (ds.take a) d (BD ds))):=by
 obtain⟨R,hR⟩:∃ R,R=l++Dx (ds.take a) d (BD ds):=MX
 rw [<- hR] at hl ⊢
 rw [Dx,qG MBc,qG ME,qM hk,<- qO,<- qO,<- qO,<- qO] at hR
 obtain⟨L1,e1⟩:∃ L,L=l++Cc (ds.take a) d:=MX
 obtain⟨L2,e2⟩:∃ L,L=L1++F6 (ds.take a) d:=MX
 obtain⟨L3,e3⟩:∃ L,L=L2++BK (ds.take a) d:=MX
 obtain⟨L4,e4⟩:∃ L,L=L3++Am (ds.take a) d [] d.refs:=MX
 rw [<- e1,<- e2,<- e3,<- e4] at hR
 have hl4:L4.length<=90000:=ME6
 have hl3:L3.length<=90000:=by rw [e4,qD] at hl4;omega
 have hl2:L2.length<=90000:=by rw [e3,qD] at hl3;omega
 have hl1:L1.length<=90000:=by rw [e2,qD] at hl2;omega
 have hl0:l.length<=90000:=by rw [e1,qD] at hl1;omega
 obtain⟨g,hg⟩:∃ g,g=BD ds:=MX
 have hT:=nG l h d (hd.ok.name (.inr (.inl hk))) ME
 have hC:=aHG L2 h d ME
 have hF:=Zg L3 h d hd.ok.refs hd.refs ME
 have hX:=aHI L4 h d g ME hd.refs hd.len hd.cases (by rw [hg,<- hR];omega)
 rw [hg,<- hR,<- hg] at hX
 rw [<- e1] at hT
 rw [<- e3] at hC
 rw [<- e4] at hF
 have h0:∃ t:De,(ds.map De.cells)[0]?=some t.cells/\g=if t.kind=1 then t.n else 0:=by
  cases ds with
  | nil=>cases nC
  | cons t r=>exact⟨t,rfl,hg⟩
 clear hg
 obtain⟨⟨ek,en,enm,epl,ers,ecs⟩,h0,hg⟩:=h0
 simp only [] at hg
 clear hR e1 e3 e4 hk
 obtain⟨dk,dn,AQ,Ab,AJ,AZ⟩:=d
 rw [F6,h.tk] at e2
 simp only [] at e2
 by_cases hp:Ab=[]
 ·rw [qM hp,qU] at e2
  refine MK0 ?_
  refine(hT).holds.BB [] [] rfl (sk) (sk) fun e0 H0 hq=>?_
  obtain⟨rfl,rfl⟩:=hq
  refine MAV ?_
  refine And.intro (fun _=>?_) (fun h=>absurd hp h)
  exact MA6
 rw [qG hp] at e2
 cases hv:EC (ds.take a) Ab with
 | none=>
  have hf:=h.none hp hv
  rw [hv] at e2
  simp only [] at e2
  refine MK0 ?_
  refine(hT).holds.BB [] [] rfl (sk) (sk) fun e0 H0 hq=>?_
  obtain⟨rfl,rfl⟩:=hq
  refine MAV ?_
  refine And.intro (fun h=>absurd h hp) (fun _=>?_)
  refine FI.seq rfl ?_
  refine⟨_, .inr MHQ,?_⟩
  refine(Ic ds a es (L1) 3 Ab MBh).holds.BB [5] [(2,4)] rfl (sk) MBF fun e0 H0 hq=>?_
  obtain⟨rfl,rfl⟩:=hq
  refine⟨rfl,_,⟨7,(6,Bz ((L1)++[Ac.mk 3 (a:Nat) Ab]))::(1,EX es)::(0,Ej ds (a:Nat) 6 ((L1)++[Ac.mk 3 (a:Nat) Ab]).length)::[(5,dK Ab),(3,Bl ⟨dk,dn,AQ,Ab,AJ,AZ⟩)]⟩,rfl,rfl,?_⟩
  exact MA2
 | some t=>
  obtain⟨i,hf,hl,hc⟩:=h.some hp hv
  rw [hv] at e2
  obtain⟨tk,tn,tnm,LA,trs,tcs⟩:=t
  simp only [] at e2
  refine MK0 ?_
  refine(hT).holds.BB [] [] rfl (sk) (sk) fun e0 H0 hq=>?_
  obtain⟨rfl,rfl⟩:=hq
  refine MAV ?_
  refine And.intro (fun h=>absurd h hp) (fun _=>?_)
  refine FI.seq rfl ?_
  refine⟨_, .inl MGl,?_⟩
  refine⟨_,MDS,?_⟩
  refine And.intro (fun k2=>?_) (fun k2=>?_)
  ·have k2:tk=2:=k2
   rw [qM k2,qU] at e2
   exact MA6
  ·have k2:¬ tk=2:=k2
   rw [qG k2] at e2
   refine(Ic ds a es (L1) 4 Ab MBh).holds.BB [5] [(2,4)] rfl (sk) MBF fun e0 H0 hq=>?_
   obtain⟨rfl,rfl⟩:=hq
   refine⟨rfl,_,⟨7,(6,Bz ((L1)++[Ac.mk 4 (a:Nat) Ab]))::(1,EX es)::(0,Ej ds (a:Nat) 6 ((L1)++[Ac.mk 4 (a:Nat) Ab]).length)::[(5,dK Ab),(3,Bl ⟨dk,dn,AQ,Ab,AJ,AZ⟩)]⟩,rfl,rfl,?_⟩
   exact MA2
set_option maxHeartbeats 4000000
theorem nK {l:List (List UInt8)} {s:List UInt8} (h:Uv l s=true):s∈l:=by
 induction l with
 | nil=>simp [Uv] at h
 | cons x r ih=>
  simp only [Uv,kW,qJ] at h
  rcases h with rfl | h
  ·simp
  ·exact qh _ (ih h)
theorem iE {k:Int} {t:List UInt8} (h:Hu k t=true):1<=t.length/\t.length<=10:=by
 have ne:∀ {t:List UInt8},t ≠ []->1<=t.length:=by intro t ht;cases t <;> simp at ht ⊢
 unfold Hu at h
 split at h
 ·simp [Bb] at h;exact⟨ne h.1.1.1.1,h.1.1.1.2⟩
 ·split at h
  ·exact(by decide:∀ t∈GD,1<=t.length/\t.length<=10) t (nK h)
  ·split at h
   ·simp [Uu] at h
    exact⟨ne h.1.1.1,by omega⟩
   ·split at h
    ·exact(by decide:∀ t∈Ez,1<=t.length/\t.length<=10) t (nK h)
    ·cases h
structure JS where
 k:Nat
 a:Nat
 b:Nat
 lg:Nat
 n:Nat
 xs:List UInt8
 pre:List UInt8
structure JI where
 a:Nat
 b:Nat
 n:Nat
 xs:List UInt8
def aKL:List UInt8:=[48,49,50,51,52,53,54,55,56,57]
def Zk:Nat->Nat->List UInt8
 | 0,_=>[]
 | f+1,n=>if n<10 then [aKL.getD n 0] else Zk f (n / 10)++[aKL.getD (n % 10) 0]
theorem aCn:∀ f n,(Zk f n).length<=f
 | 0,_=>by simp [Zk]
 | f+1,n=>by
  simp only [Zk]
  split
  ·simp
  ·have:=aCn f (n / 10)
   simp
   omega
structure Dr where
 kind:UInt8
 which:UInt8
 letters:List UInt8
 n:UInt16
 down:UInt8
 over:UInt8
abbrev Dr.cells (d:Dr):List PV:=[u8 d.kind,u8 d.which, .Dh (d.letters.map u8), .int .u16 (d.n.toNat:Int),u8 d.down,u8 d.over]
def aO2 (d:Dr):Prop:=0<d.down.toNat % 3/\d.down.toNat<100
instance (d:Dr):Decidable (aO2 d):=inferInstanceAs (Decidable (_/\_))
def aED (d:Dr) (c:Nat):Nat:=(if aO2 d then 1 else c)+d.over.toNat % 4
structure WS where
 k:Nat
 a:Nat
 b:Nat
 out:List Wd
def aRF (c:UInt8):Prop:=c.toNat=32∨c.toNat=10
def aOz (r:List UInt8):Bool:=match r with
 | []=>true
 | c::_=>!(decide (c.toNat=32) || decide (c.toNat=10)) && !List.isPrefixOf [45,45] r && !List.isPrefixOf [40,42] r
def aL4 (g r:List UInt8):Prop:=∀ f,(g++r).length<=f->aCH f (g++r)=.inl g.length
theorem aEo {f:UInt8->Bool} {t:List UInt8}:CY f t=t.length ↔ ∀ c∈t,f c=true:=by
 induction t with
 | nil=>simp [CY]
 | cons c t ih=>
  have hl:=YI f t
  simp only [CY,qR]
  grind
def aL3 (c:UInt8):Prop:=aRF c∨c.toNat=40
inductive Fol:List UInt8->List UInt8->Prop
 | nil (a:List UInt8):Fol a []
 | bl (a:List UInt8) (c:UInt8) (b:List UInt8) (h:aL3 c):Fol a (c::b)
 | same (c:UInt8) (a b:List UInt8):Fol (c::a) (c::b)
inductive Lay:Nat × Nat->List UInt8->List Wd->List UInt8->Prop
 | nil (p:Nat × Nat) (suf:List UInt8):Lay p [] [] suf
 | cons {p:Nat × Nat} {g T:List UInt8} {w:Wd} {ws:List Wd} {suf:List UInt8} {l c:Nat} (hsk:aL4 g (w.text++(T++suf))) (h1:aMf (w.text++(T++suf))=(w.kind,w.text)) (hr:Hu w.kind w.text=true)
   (hp:aOT p g=(l,c)) (hl:w.line=l) (hc:w.Le=c) (h:Lay (l,c+w.text.length) T ws suf):Lay p (g++(w.text++T)) (w::ws) suf
theorem Lay.len {p:Nat × Nat} {T:List UInt8} {ws:List Wd} {suf:List UInt8} (h:Lay p T ws suf):ws.length<=T.length:=by
 induction h with
 | nil=>simp
 | cons hsk h1 hr hp hl hc h ih=>
  grind [iE]
end Go.Proofs.YtkegmchjobphdaaGreatDoor
namespace Go.Proofs.YtkegmchjobphdaaGreatDoor
open Go Y
set_option maxRecDepth 100000
set_option maxHeartbeats 4000000
abbrev Ee:=List (List UInt8)
def Iu (n:Int):List UInt8:=Zk 4 n.toNat
def dN (n:Int):Ee:=if n<0 then [aMc,Iu (-n)] else [Iu n]
def iA (r:Rf):Ee:=if r.mode=3 then [tLB,aJa,tRB] else if r.mode=2 then [tLB,Iu r.n,tRB] else if r.mode=1 then(if 0<r.n then [tLB,r.Ae,aGF,Iu r.n,tRB] else [tLB,r.Ae,tRB]) else []
def dL (r:Rf):Ee:=r.name::iA r
def aBO {α:Type} (f:α->Ee):List α->Ee
 | []=>[]
 | a::r=>f a++r.flatMap fun b=>YF::f b
def aEl (k:Int):List UInt8:=if k=1 then tEq else if k=2 then tNe else if k=3 then tLt else tLe
def lvl (op:Int):Nat:=if op=9 then 1 else if op=8 then 2 else if op=7 then 3 else 4
def dM (k:Nat) (p:Int × Ee):Ee:=if lvl p.1<k then tLP::(p.2++[tRP]) else p.2
def Tx (op n rel val:Int) (r:Rf) (st:List Int):Ee:=
 if op=6 then [aAi,tLP]++(dL r++[tEq,Iu val,tRP,aEl rel,Iu n])
 else if op=5 then dL r++([tIn,tLC]++(aBO (fun n=>[Iu n]) st++[tRC]))
 else dL r++[aEl op,Iu n]
def aL5 (op n rel val:Int) (r:Rf) (st:List Int) (ps:List (Int × Ee)):Ee:=
 if op=9 then dM 1 (ps.getD 0 (0,[]))++tOr::dM 2 (ps.getD 1 (0,[]))
 else if op=8 then dM 2 (ps.getD 0 (0,[]))++aAg::dM 3 (ps.getD 1 (0,[]))
 else if op=7 then aAh::dM 3 (ps.getD 0 (0,[]))
 else Tx op n rel val r st
def Cd.op:Cd->Int
 | .mk op _ _ _ _ _ _=>op
mutual
def DZ:Cd->Ee
 | .mk op n rel val r st ar=>aL5 op n rel val r st (aHS ar)
def aHS:List Cd->List (Int × Ee)
 | []=>[]
 | c::r=>(c.op,DZ c)::aHS r
end
def Ev (k:Nat) (c:Cd):Ee:=dM k (c.op,DZ c)
def WM (l:List Int):Ee:=l.flatMap dN
def KA:List Cs->Ee
 | []=>[]
 | [c]=>aLp::aAj::WM c.Ah
 | c::d::r=>DZ c.cond++(aAj::(WM c.Ah++(YE::KA (d::r))))
def Ty (l:List Cs):Ee:=tLC::(KA l++[tRC])
def QE (key:List UInt8) (l:List Rf):Ee:=if l=[] then [] else key::aBO dL l
def aCh (d:De):Ee:=
 if d.kind=1 then [aGD,Iu d.n] else if d.kind=2 then [aGE,d.name,tEq,Iu d.n]
 else if d.kind=3 then [aLn,d.name]++((if d.Ae=[] then [] else [tLB,d.Ae,tRB])++([aAj,Iu d.n]++(QE Vx d.refs++(tEq::Ty d.cases))))
 else if d.kind=4 then [aCG,d.name,aAj,Iu d.n]++QE XT d.refs
 else if d.kind=5 then aLo::(QE Vx d.refs++(tEq::Ty d.cases)) else []
def Ig (d:De):Ee:=aCh d++[YE]
def RV:Bool->Ee->List UInt8
 | _,[]=>[]
 | b,w::r=>(if b then [32] else [])++(w++RV true r)
theorem aCl:∀ (b:Bool) (x y:Ee),RV b (x++y)=RV b x++RV (b || decide (x ≠ [])) y
 | b,[],y=>by simp [RV]
 | b,w::r,y=>by
  show(if b then [32] else [])++(w++RV true (r++y))=((if b then [32] else [])++(w++RV true r))++_
  rw [aCl true r y]
  simp [List.append_assoc]
theorem iG (x y:Ee):RV true (x++y)=RV true x++RV true y:=by rw [aCl];simp
theorem aNA:∀ {x:Ee},x ≠ []->RV true x=32::RV false x
 | [],h=>absurd rfl h
 | _::_,_=>rfl
def aO1 (d:De):List UInt8:=RV false (Ig d)++[10]
def aCm (ds:List De):List UInt8:=ds.flatMap aO1
def aHQ (ds:List De):Nat:=(ds.map fun d=>(Ig d).length).sum
end Go.Proofs.YtkegmchjobphdaaGreatDoor
namespace Go.Proofs.YtkegmchjobphdaaGreatDoor
open Go Y
set_option maxRecDepth 100000
set_option maxHeartbeats 4000000
theorem aCk:∀ n,n<10->(aKL.getD n 0).toNat=48+n:=ML
structure aO0 (t:List UInt8) (n:Nat) (f:Nat):Prop where
 ne:t ≠ []
 len:t.length<=f
 dig:∀ c∈t,48<=c.toNat/\c.toNat<=57
 zero:n=0->t=[48]
 head:0<n->(t.headD 0).toNat ≠ 48
 val:aAf t=n
theorem aHR:∀ (f n:Nat),n<10 ^ (f+1)->aO0 (Zk (f+1) n) n (f+1)
 | f,n,h=>by
  rw [Zk]
  by_cases c:n<10
  ·rw [qM c]
   have hv:=aCk n c
   refine⟨by simp,by simp,fun x hx=>?_,fun e=>by subst e;rfl,fun e=>?_,?_⟩
   ·grind
   ·grind
   ·show 10 * (0:Int)+(((aKL.getD n 0).toNat:Int) - 48)=n;omega
  ·rw [qG c]
   obtain⟨g,rfl⟩:∃ g,f=g+1:=by
    cases f with
    | zero=>exfalso;omega
    | succ g=>simp_all
   have ih:=aHR g (n / 10) ME
   have hv:=aCk (n % 10) ME
   refine⟨by simp,by have:=ih.len;simp_all,fun x hx=>?_,fun e=>by omega,fun _=>?_,?_⟩
   ·rcases qa.1 hx with hx | hx
    ·exact ih.dig x hx
    grind
   ·have hh:=ih.head ME
    grind [Zk]
   ·rw [aD0,ih.val];omega
theorem aHO {n:Int} (h:DW n=true):Uu (Iu n)=true/\aAf (Iu n)=n:=by
 simp only [DW,qC,qJ] at h
 have hd:=aHR 3 n.toNat ME
 refine⟨?_,by rw [Iu,hd.val];omega⟩
 unfold Uu Iu
 simp only [qC,qJ,kW]
 refine⟨⟨⟨hd.ne,hd.len⟩,aEo.2 fun c hc=>?_⟩,?_⟩
 ·have:=hd.dig c hc
  simp only [Gv,qC,qJ];exact this
 ·by_cases c:n.toNat=0
  ·exact .inl (hd.zero c)
  ·exact .inr (hd.head ME)
def AtW (ws:List Wd):Nat->Ee->Prop
 | _,[]=>True
 | q,t::r=>YG ws q=t/\AtW ws (q+1) r
theorem Om {t:List UInt8} (h:Bb t=true):t ≠ []/\Uv GD t=false/\Uu t=false/\Uv Ez t=false:=by
 simp only [Bb,qC,qJ,ku] at h
 obtain⟨⟨⟨⟨h1,h2⟩,h3⟩,h4⟩,h5⟩:=h
 refine⟨h1,h5,?_,?_⟩
 ·cases e:Uu t with
  | false=>rfl
  | true=>
   exfalso
   have hd:=(aJZ e).2
   cases t with
   | nil=>exact h1 rfl
   | cons c r=>
    have:=hd c (kC ..)
    have h3:isLet c=true:=h3
    simp only [isLet,kW,qC,qJ] at h3
    omega
 ·cases e:Uv Ez t with
  | false=>rfl
  | true=>
   exfalso
   have key:∀ s∈Ez,isLet (s.headD 0)=false:=ML
   grind [nK]
section
variable {ws:List Wd} (hg:fA ws)
include hg
end
end Go.Proofs.YtkegmchjobphdaaGreatDoor
namespace Go.Proofs.YtkegmchjobphdaaGreatDoor
open Go Y
set_option maxRecDepth 100000
set_option maxHeartbeats 4000000
theorem aCj {l:List Int}:∀ (f k:Nat),Wm l f k=true->∀ i,k<=i->i<k+f->DW (l.getD i 0)=true/\(i=0∨l.getD (i - 1) 0<l.getD i 0)
 | 0,k,_,i,h1,h2=>absurd h2 (by omega)
 | f+1,k,h,i,h1,h2=>by
  rw [Wm] at h
  simp only [qC,kW,qJ] at h
  by_cases c:i=k
  ·subst c
   exact h.1
  ·exact aCj f (k+1) h.2 i (by omega) (by omega)
theorem Zi {l:List Int} (h:KW l=true):l ≠ []/\(∀ n∈l,DW n=true)/\aMd l=l:=by
 simp only [KW,qC,qJ] at h
 obtain⟨⟨h1,h2⟩,h3⟩:=h
 have hi:=aCj l.length 0 h3
 refine⟨fun e=>MAe,fun n hn=>?_,?_⟩
 ·obtain⟨i,fI,rfl⟩:=vN hn
  simp_all
 ·have aSP:X0 l:=by
   rw [X0,zt]
   have key:∀ (d i:Nat),i+d+1<l.length->l.getD i 0<l.getD (i+d+1) 0:=by
    intro d
    induction d with
    | zero=>
     grind
    | succ d ih=>
     grind
   intro i j fI hj hij
   have:=key (j - i - 1) i ME
   rw [show i+(j - i - 1)+1=j by omega,qK,qW fI,qK,qW hj] at this
   exact this
  have hs:=sK l [] List.Pairwise.nil
  grind [lN,aMd]
def aM9 (t:List UInt8):Prop:=Bb t=true∨t=aAh∨t=tLP∨t=aAi
structure CB (ws:List Wd) (c:Cd):Prop where
 neg:∀ F q,4 * (ws.length - q)+2<=F->AtW ws q (Ev 3 c)->rz ws F q=.inr (c,q+(Ev 3 c).length)
 OE:∀ F q,4 * (ws.length - q)+3<=F->AtW ws q (Ev 2 c)->∃ f,4 * (ws.length - (q+(Ev 2 c).length))+1<=f/\YD ws F q=aDw ws f c (q+(Ev 2 c).length)
 cond:∀ F q,4 * (ws.length - q)+4<=F->AtW ws q (Ev 1 c)->¬ YG ws (q+(Ev 1 c).length)=aAg->∃ f,4 * (ws.length - (q+(Ev 1 c).length))+1<=f/\eZ ws F q=orR ws f c (q+(Ev 1 c).length)
 head:∃ t r,DZ c=t::r/\aM9 t
section
variable {ws:List Wd} (hg:fA ws)
end
end Go.Proofs.YtkegmchjobphdaaGreatDoor
namespace Go.Proofs.YtkegmchjobphdaaGreatDoor
open Go Y
set_option maxRecDepth 100000
set_option maxHeartbeats 4000000
theorem iF {f:Nat->Cd->Option Nat}:∀ {ar:List Cd} {l k:Nat},ar.foldlM f l=some k->∀ c∈ar,∃ a b,f a c=some b
 | [],_,_,_,c,hc=>by simp at hc
 | x::ar,l,k,h,c,hc=>by
  rw [kM] at h
  cases hx:f l x with
  | none=>simp_all
  | some m=>
   rw [hx] at h
   rcases qw.1 hc with rfl | hc
   ·grind
   ·exact iF (ar:=ar) h c hc
theorem R6 {n rel val:Int} {r:Rf} {st:List Int} (h:Bo n rel val r st=true):n=0/\rel=0/\val=0/\r=Bu/\st=[]:=by
 simp only [Bo,qC,qJ] at h
 simp_all
theorem aKJ {α:Type} {l:List α} (h:l.length=2):∃ a b,l=[a,b]:=by
 rcases l with _ | ⟨a,_ | ⟨b,_ | ⟨c,l⟩⟩⟩
 ·cases h
 ·cases h
 ·simp_all
 simp_all
theorem aOy {α:Type} {l:List α} (h:l.length=1):∃ a,l=[a]:=by
 rcases l with _ | ⟨a,_ | ⟨b,l⟩⟩
 ·cases h
 ·simp_all
 simp_all
inductive Sh (P:Cd->Prop):Cd->Prop
 | leaf (op n rel val:Int) (r:Rf) (st:List Int) (h7:¬ op=7) (h8:¬ op=8) (h9:¬ op=9) (h:Av op n rel val r st=true):Sh P (.mk op n rel val r st [])
 | neg (a:Cd) (h:P a):Sh P (.mk 7 0 0 0 Bu [] [a])
 | OE (a b:Cd) (ha:P a) (hb:P b):Sh P (.mk 8 0 0 0 Bu [] [a,b])
 | Sc (a b:Cd) (ha:P a) (hb:P b):Sh P (.mk 9 0 0 0 Bu [] [a,b])
theorem aBL {d:Nat} {c:Cd} {left k:Nat} (h:BQ (d+1) c left=some k):Sh (fun a=>∃ l k,BQ d a l=some k) c:=by
 obtain⟨op,n,rel,val,r,st,ar⟩:=c
 rw [BQ] at h
 split at h
 ·cases h
 ·split at h
  ·rename_i hh
   have hm:=iF h
   unfold Ay at hh
   split at hh
   ·rename_i h0
    simp only [qC,qJ] at hh
    have:ar=[]:=qf.1 hh.2
    subst this
    unfold Az at h0
    refine .leaf op n rel val r st ?_ ?_ ?_ hh.1
    ·grind
    ·grind
    grind
   ·rename_i h0
    simp only [qC,qJ] at hh
    obtain⟨hk,hp⟩:=hh
    obtain⟨rfl,rfl,rfl,rfl,rfl⟩:=R6 hp
    unfold Az at h0 hk
    by_cases c7:op=7
    ·subst c7
     obtain⟨a,rfl⟩:=aOy hk
     exact .neg a (hm a MBV)
    ·rw [qG c7] at h0 hk
     by_cases c8:op=8
     ·subst c8
      obtain⟨a,b,rfl⟩:=aKJ hk
      exact .OE a b (hm a (by simp)) (hm b MBV)
     ·by_cases c9:op=9
      ·subst c9
       obtain⟨a,b,rfl⟩:=aKJ hk
       exact .Sc a b (hm a (by simp)) (hm b MBV)
      simp_all
  ·cases h
theorem Sh.mono {P Q:Cd->Prop} {c:Cd} (h:Sh P c) (hpq:∀ a,P a->Q a):Sh Q c:=by
 cases h with
 | leaf op n rel val r st h7 h8 h9 h=>exact .leaf op n rel val r st h7 h8 h9 h
 | neg a h=>exact .neg a (hpq a h)
 | OE a b ha hb=>exact .OE a b (hpq a ha) (hpq b hb)
 | Sc a b ha hb=>exact .Sc a b (hpq a ha) (hpq b hb)
theorem R7 {op n rel val:Int} {r:Rf} {st:List Int} (h7:¬ op=7) (h8:¬ op=8) (h9:¬ op=9):DZ (.mk op n rel val r st [])=Tx op n rel val r st:=by
 rw [DZ,aL5,qG h9,qG h8,qG h7]
theorem VL (a:Cd):DZ (.mk 7 0 0 0 Bu [] [a])=aAh::Ev 3 a:=by
 rfl
theorem R8 (a b:Cd):DZ (.mk 8 0 0 0 Bu [] [a,b])=Ev 2 a++aAg::Ev 3 b:=by
 rfl
theorem R9 (a b:Cd):DZ (.mk 9 0 0 0 Bu [] [a,b])=Ev 1 a++tOr::Ev 2 b:=by
 rfl
theorem aEm {k:Nat} {c:Cd} (h:¬ lvl c.op<k):Ev k c=DZ c:=qG h
section
variable {ws:List Wd} (hg:fA ws)
include hg
end
end Go.Proofs.YtkegmchjobphdaaGreatDoor
namespace Go.Proofs.YtkegmchjobphdaaGreatDoor
open Go Y
set_option maxRecDepth 100000
set_option maxHeartbeats 4000000
theorem aHE {c:Cd} (h:F9 c=true):c=Fy:=by
 obtain⟨op,n,rel,val,r,st,ar⟩:=c
 simp only [F9,qC,qJ] at h
 obtain⟨⟨rfl,h2⟩,h3⟩:=h
 obtain⟨rfl,rfl,rfl,rfl,rfl⟩:=R6 h2
 have:ar=[]:=qf.1 h3
 subst this
 rfl
theorem Zd {l:List Int} (h:EE l=true):l ≠ []/\l.length<=8/\∀ n∈l,Im n=true:=by
 simp only [EE,qC,qJ,qi] at h
 grind
section
variable {ws:List Wd} (hg:fA ws)
include hg
end
end Go.Proofs.YtkegmchjobphdaaGreatDoor
namespace Go.Proofs.YtkegmchjobphdaaGreatDoor
open Go Y
set_option maxRecDepth 100000
set_option maxHeartbeats 4000000
structure aSA (g:List UInt8):Prop where
 sep:∃ c r,g=c::r/\aL3 c
 skip:∀ r,aOz r=true->aL4 g r
def QD (t:List UInt8):Prop:=∃ k,Hu k t=true
theorem aKK (d:De):Ig d ≠ []:=by rw [Ig];simp
theorem wX:∀ ds:List De,(ds.flatMap Ig).length=aHQ ds
 | []=>rfl
 | d::ds=>by rw [xe,qD,wX ds];rfl
def Ie (x:Ee):Prop:=∀ t∈x,QD t
theorem Cj:Ie []:=fun t h=>by simp at h
theorem Al {t:List UInt8} {x:Ee} (h:QD t) (hx:Ie x):Ie (t::x):=fun u hu=>by
 rcases qw.1 hu with rfl | hu
 ·exact h
 ·exact hx u hu
theorem Ck {x y:Ee} (hx:Ie x) (hy:Ie y):Ie (x++y):=fun u hu=>by
 rcases qa.1 hu with hu | hu
 ·exact hx u hu
 ·exact hy u hu
theorem Jk {t:List UInt8} (h:Bb t=true):QD t:=⟨1,h⟩
theorem JP {n:Int} (h:DW n=true):QD (Iu n):=⟨3,(aHO h).1⟩
theorem Bw:∀ t∈GD++Ez,QD t:=by
 intro t ht
 rcases qa.1 ht with h | h
 ·exact⟨2,(by decide:∀ t∈GD,Hu 2 t=true) t h⟩
 ·exact⟨4,(by decide:∀ t∈Ez,Hu 4 t=true) t h⟩
theorem aBN {x:Ee} (h:∀ t∈x,t∈GD++Ez):Ie x:=fun t ht=>Bw t (h t ht)
theorem Ku {r:Rf} (h:CU r=true):Ie (dL r)/\(dL r).length<=6:=by
 obtain⟨nm,m,pl,n⟩:=r
 rw [CU,qC] at h
 obtain⟨hn,h⟩:=h
 simp only [] at h hn
 have k1:QD tLB:=Bw _ ML
 have k2:QD tRB:=Bw _ ML
 have k3:QD aJa:=Bw _ ML
 have k4:QD aGF:=Bw _ ML
 suffices hs:Ie (iA ⟨nm,m,pl,n⟩)/\(iA ⟨nm,m,pl,n⟩).length<=5 by
  exact⟨Al (Jk hn) hs.1,by show _+1<=6;omega⟩
 unfold iA
 simp only []
 split
 ·grind [Al,Cj]
 ·rename_i h3
  split
  ·rename_i h2
   rw [qG MBc,qG ME,qM h2,qC] at h
   grind [Al,JP,Cj]
  ·split
   ·rename_i h1
    rw [qG ME,qM h1,qC] at h
    split
    ·exact⟨Al k1 (Al (Jk h.1) (Al k4 (Al (JP h.2) (Al k2 Cj)))),by simp⟩
    grind [Al,Jk,Cj]
   grind [Cj]
theorem VK {α:Type} {f:α->Ee} {b:Nat}:∀ {l:List α},(∀ a∈l,Ie (f a)/\(f a).length<=b)->Ie (l.flatMap f)/\(l.flatMap f).length<=b * l.length
 | [],_=>⟨Cj,by simp⟩
 | a::l,h=>by
  have h1:=h a (kC ..)
  have h2:=VK (f:=f) (b:=b) (l:=l) fun x hx=>h x (qh _ hx)
  rw [xe]
  refine⟨Ck h1.1 h2.1,?_⟩
  rw [qD,qR,zU]
  omega
theorem Zh {α:Type} {f:α->Ee} {b:Nat} {l:List α} (h:∀ a∈l,Ie (f a)/\(f a).length<=b):Ie (aBO f l)/\(aBO f l).length<=(b+1) * l.length:=by
 cases l with
 | nil=>grind [Cj,aBO]
 | cons a l=>
  have h1:=h a (kC ..)
  have h2:=VK (f:=fun x=>YF::f x) (b:=b+1) (l:=l) fun x hx=>⟨Al (Bw _ ML) (h x (qh _ hx)).1,MG0⟩
  rw [aBO]
  refine⟨Ck h1.1 h2.1,?_⟩
  rw [qD,qR,zU]
  omega
theorem aCg (k:Int):QD (aEl k):=by
 refine Bw _ ?_
 unfold aEl
 split
 ·decide
 ·split
  ·decide
  ·split <;> decide
theorem iB {op n rel val:Int} {r:Rf} {st:List Int} (hb:Av op n rel val r st=true):Ie (Tx op n rel val r st)/\(Tx op n rel val r st).length<=25:=by
 unfold Av at hb
 unfold Tx
 by_cases c6:op=6
 ·rw [qG MBc,qG ME,qM c6] at hb
  simp only [qC,qJ] at hb
  obtain⟨⟨⟨⟨⟨⟨b1,b2⟩,b3⟩,b4⟩,b5⟩,b6⟩,b7⟩:=hb
  rw [qM c6]
  have hr:=Ku b1
  refine⟨Ck (aBN MEl) (Ck hr.1 (Al (Bw _ MBM) (Al (JP b4) (Al (Bw _ ML) (Al (aCg rel) (Al (JP b3) Cj)))))),?_⟩
  simp only [qD,qR,qy];omega
 ·rw [qG c6]
  by_cases c5:op=5
  ·rw [qG ME,qM c5] at hb
   simp only [qC,qJ] at hb
   obtain⟨⟨⟨⟨b1,b2⟩,b3⟩,b4⟩,b5⟩:=hb
   rw [qM c5]
   have hr:=Ku b1
   have TQ:=Zi b5
   have hl8:st.length<=8:=by
    simp only [KW,qC,qJ] at b5
    exact b5.1.2
   have hs:=Zh (f:=fun n=>[Iu n]) (b:=1) (l:=st) fun a ha=>MJy
   refine⟨Ck hr.1 (Ck (aBN MBM) (Ck hs.1 (aBN ML))),?_⟩
   grind
  ·rw [qG c5]
   by_cases c1:op=1∨op=2∨op=3∨op=4
   ·rw [qM c1] at hb
    simp only [qC,qJ] at hb
    grind [Ku,Ck,Al,aCg,JP,Cj]
   simp_all
inductive ShN (P:Nat->Cd->Nat->Prop):Nat->Cd->Nat->Prop
 | leaf (op n rel val:Int) (r:Rf) (st:List Int) (l:Nat) (h7:¬ op=7) (h8:¬ op=8) (h9:¬ op=9) (h:Av op n rel val r st=true):ShN P (l+1) (.mk op n rel val r st []) l
 | neg (a:Cd) (l k:Nat) (h:P l a k):ShN P (l+1) (.mk 7 0 0 0 Bu [] [a]) k
 | OE (a b:Cd) (l m k:Nat) (ha:P l a m) (hb:P m b k):ShN P (l+1) (.mk 8 0 0 0 Bu [] [a,b]) k
 | Sc (a b:Cd) (l m k:Nat) (ha:P l a m) (hb:P m b k):ShN P (l+1) (.mk 9 0 0 0 Bu [] [a,b]) k
theorem wW {d:Nat} {c:Cd} {left k:Nat} (h:BQ (d+1) c left=some k):ShN (fun l a k=>BQ d a l=some k) left c k:=by
 obtain⟨op,n,rel,val,r,st,ar⟩:=c
 rw [BQ] at h
 split at h
 ·cases h
 ·rename_i hl0
  obtain⟨l,rfl⟩:∃ l,left=l+1:=MIb
  rw [xE] at h
  split at h
  ·rename_i hh
   unfold Ay at hh
   split at hh
   ·rename_i h0
    simp only [qC,qJ] at hh
    have:ar=[]:=qf.1 hh.2
    subst this
    unfold Az at h0
    injection h with h
    have h:l=k:=h
    subst h
    refine .leaf op n rel val r st l ?_ ?_ ?_ hh.1
    ·grind
    ·grind
    grind
   ·rename_i h0
    simp only [qC,qJ] at hh
    obtain⟨hk,hp⟩:=hh
    obtain⟨rfl,rfl,rfl,rfl,rfl⟩:=R6 hp
    have two:∀ {a b:Cd},[a,b].foldlM (fun l c=>BQ d c l) l=some k->∃ m,BQ d a l=some m/\BQ d b m=some k:=fun {a b} h=>by
     rw [kM] at h
     cases h1:BQ d a l with
     | none=>simp_all
     | some m=>
      simp_all
    unfold Az at h0 hk
    by_cases c7:op=7
    ·subst c7
     obtain⟨a,rfl⟩:=aOy hk
     rw [kM] at h
     cases h1:BQ d a l with
     | none=>simp_all
     | some m=>
      rw [h1] at h
      exact .neg a l k (by rw [h1];exact h)
    ·rw [qG c7] at h0 hk
     by_cases c8:op=8
     ·subst c8
      obtain⟨a,b,rfl⟩:=aKJ hk
      obtain⟨m,h1,h2⟩:=two h
      exact .OE a b l m k h1 h2
     ·by_cases c9:op=9
      ·subst c9
       obtain⟨a,b,rfl⟩:=aKJ hk
       obtain⟨m,h1,h2⟩:=two h
       exact .Sc a b l m k h1 h2
      simp_all
  ·cases h
theorem Jl {k:Nat} {c:Cd} (h:Ie (DZ c)):Ie (Ev k c)/\(Ev k c).length<=(DZ c).length+2:=by
 by_cases hl:lvl c.op<k
 ·rw [Ev,dM,qM hl]
  exact⟨Al (Bw _ MBM) (Ck h (aBN ML)),by simp⟩
 grind [aEm]
theorem KL:∀ (d:Nat) (c:Cd) (left k:Nat),BQ d c left=some k->Ie (DZ c)/\(DZ c).length+2+28 * k<=28 * left
 | 0,_,_,_,h=>by cases h
 | d+1,c,left,k,h=>by
  cases wW h with
  | leaf op n rel val r st l h7 h8 h9 hb=>
   grind [R7,iB]
  | neg a l k ha=>
   have ia:=KL d a l k ha
   have wa:=Jl (k:=3) ia.1
   rw [VL]
   exact⟨Al (Bw _ ML) wa.1,by grind⟩
  | OE a b l m k ha hb=>
   have ia:=KL d a l m ha
   have ib:=KL d b m k hb
   have wa:=Jl (k:=2) ia.1
   have wb:=Jl (k:=3) ib.1
   rw [R8]
   exact MJU
  | Sc a b l m k ha hb=>
   have ia:=KL d a l m ha
   have ib:=KL d b m k hb
   have wa:=Jl (k:=1) ia.1
   have wb:=Jl (k:=2) ib.1
   rw [R9]
   exact MJU
theorem aHP {n:Int} (h:Im n=true):Ie (dN n)/\(dN n).length<=2:=by
 simp only [Im,qC,qJ] at h
 unfold dN
 split
 ·exact⟨Al (Bw _ ML) (Al (JP (by simp only [DW,qC,qJ];omega)) Cj),by simp⟩
 ·exact⟨Al (JP (by simp only [DW,qC,qJ];omega)) Cj,by simp⟩
theorem iC {l:List Int} (h:EE l=true):Ie (WM l)/\(WM l).length<=16:=by
 obtain⟨h1,h2,h3⟩:=Zd h
 have:=VK (f:=dN) (b:=2) (l:=l) fun a ha=>aHP (h3 a ha)
 grind [WM]
theorem Zj:∀ {l:List Cs},DX l=true->Ie (KA l)/\(KA l).length<=858 * l.length
 | [],_=>⟨Cj,by simp [KA]⟩
 | [c],h=>by
  simp only [DX,qC] at h
  have hn:=iC h.1
  rw [KA]
  exact⟨Al (Bw _ MBM) (Al (Bw _ ML) hn.1),by grind⟩
 | c::d::r,h=>by
  simp only [DX,qC] at h
  obtain⟨⟨hn,hc⟩,hr⟩:=h
  have hn:=iC hn
  obtain⟨k,hk⟩:=jH.1 hc
  have hc:=KL 8 c.cond 30 k hk
  have ih:=Zj (l:=d::r) hr
  rw [KA]
  refine⟨Ck hc.1 (Al (Bw _ MBM) (Ck hn.1 (Al (Bw _ ML) ih.1))),?_⟩
  have:=ih.2
  simp only [qD,qR] at this ⊢
  omega
theorem iD {l:List Cs} (h:Bi l=true):Ie (Ty l)/\(Ty l).length<=10300:=by
 simp only [Bi,qC,qJ] at h
 obtain⟨⟨h1,h2⟩,h3⟩:=h
 have:=Zj h3
 refine⟨Al (Bw _ MBM) (Ck this.1 (aBN ML)),?_⟩
 grind [Ty]
theorem VM {key:List UInt8} {l:List Rf} (hk:key∈GD++Ez) (h:∀ r∈l,CU r=true) (hl:l.length<=8):Ie (QE key l)/\(QE key l).length<=60:=by
 unfold QE
 split
 ·grind [Cj]
 ·have:=Zh (f:=dL) (b:=6) (l:=l) fun a ha=>Ku (h a ha)
  grind [Al,Bw]
theorem aEn {d:De} (hv:Bg d=true):Ie (Ig d)/\(Ig d).length<=10400:=by
 obtain⟨k,n,nm,pl,rs,cs⟩:=d
 simp only [Bg,qC,qJ,qi] at hv
 obtain⟨⟨⟨v1,v2⟩,v3⟩,v4⟩:=hv
 suffices hs:Ie (aCh ⟨k,n,nm,pl,rs,cs⟩)/\(aCh ⟨k,n,nm,pl,rs,cs⟩).length<=10399 by
  exact⟨Ck hs.1 (aBN ML),by grind [Ig]⟩
 unfold BP at v4
 unfold aCh
 simp only [] at v4 ⊢
 have hd:=JP v1
 by_cases c1:k=1
 ·rw [qM c1]
  exact⟨Al (Bw _ ML) (Al hd Cj),by simp⟩
 rw [qG c1] at v4 ⊢
 by_cases c2:k=2
 ·rw [qM c2] at v4 ⊢
  simp only [qC,qJ] at v4
  exact⟨Al (Bw _ MBM) (Al (Jk v4.1.1.1) (Al (Bw _ ML) (Al hd Cj))),by simp⟩
 rw [qG c2] at v4 ⊢
 by_cases c3:k=3
 ·rw [qM c3] at v4 ⊢
  simp only [qC,kW,qJ] at v4
  obtain⟨⟨v0,v5⟩,v6⟩:=v4
  have hr:=VM (key:=Vx) ML v3 v2
  have hc:=iD v6
  have hp:Ie (if pl=[] then [] else [tLB,pl,tRB])/\(if pl=[] then [] else [tLB,pl,tRB]:Ee).length<=3:=by
   split
   ·grind [Cj]
   ·rename_i h
    exact⟨Al (Bw _ MBM) (Al (Jk (v5.resolve_left h)) (aBN ML)),by simp⟩
  refine⟨Ck (Al (Bw _ MEl) (Al (Jk v0) Cj)) (Ck hp.1 (Ck (Al (Bw _ MBM) (Al hd Cj)) (Ck hr.1 (Al (Bw _ ML) hc.1)))),?_⟩
  grind
 rw [qG c3] at v4 ⊢
 by_cases c4:k=4
 ·rw [qM c4] at v4 ⊢
  simp only [qC,qJ] at v4
  have hr:=VM (key:=XT) ML v3 v2
  refine⟨Ck (Al (Bw _ MBM) (Al (Jk v4.1.1) (Al (Bw _ ML) (Al hd Cj)))) hr.1,?_⟩
  grind
 rw [qG c4] at v4 ⊢
 by_cases c5:k=5
 ·rw [qM c5] at v4 ⊢
  simp only [qC,qJ] at v4
  have hr:=VM (key:=Vx) ML v3 v2
  have hc:=iD v4.2
  refine⟨Al (Bw _ MBM) (Ck hr.1 (Al (Bw _ ML) hc.1)),?_⟩
  grind
 simp_all
theorem nJ {t:List UInt8} (h:QD t):1<=t.length/\t.length<=10:=by
 obtain⟨k,h⟩:=h
 exact iE h
theorem aCi:∀ {x:Ee} (b:Bool),Ie x->(RV b x).length<=11 * x.length
 | [],_,_=>by simp [RV]
 | t::x,b,h=>by
  have h1:=nJ (h t (kC ..))
  have h2:=aCi (x:=x) true fun u hu=>h u (qh _ hu)
  have h3:(if b=true then [32] else []:List UInt8).length<=1:=by cases b <;> simp
  rw [RV,qD,qD,qR]
  omega
theorem Zf {ds:List De} (h:CK ds=true):ds.length<=30/\∀ d∈ds,Bg d=true:=by
 simp only [CK,qC,qJ,qi] at h
 exact h
theorem Jv {n:Int} (h0:0<=n) (h:n<=9999):DW n=true:=by
 simp only [DW,qC,qJ];omega
theorem Sd {t:List UInt8} (h:Bb t=true):t.length<=10:=(nJ (Jk h)).2
theorem WK {op n rel val:Int} {r:Rf} {st:List Int} (hb:Av op n rel val r st=true):CU r=true/\(op=6->DW n=true/\DW val=true/\1<=rel/\rel<=4)/\(op=5->KW st=true)/\(¬ op=5->¬ op=6->DW n=true/\1<=op/\op<=4):=by
 unfold Av at hb
 by_cases c6:op=6
 ·rw [qG MBc,qG ME,qM c6] at hb
  simp only [qC,qJ] at hb
  obtain⟨⟨⟨⟨⟨⟨b1,b2⟩,b3⟩,b4⟩,b5⟩,b6⟩,b7⟩:=hb
  exact⟨b1,fun _=>⟨b3,b4,b5,b6⟩,fun h=>by omega,fun _ h=>absurd c6 h⟩
 ·by_cases c5:op=5
  ·rw [qG ME,qM c5] at hb
   simp only [qC,qJ] at hb
   obtain⟨⟨⟨⟨b1,b2⟩,b3⟩,b4⟩,b5⟩:=hb
   exact⟨b1,fun h=>absurd h c6,fun _=>b5,fun h=>absurd c5 h⟩
  ·by_cases c1:op=1∨op=2∨op=3∨op=4
   ·rw [qM c1] at hb
    simp only [qC,qJ] at hb
    exact⟨hb.1.1.1.1,fun h=>absurd h c6,fun h=>absurd h c5,fun _ _=>⟨hb.1.1.1.2,by omega,by omega⟩⟩
   ·rw [qG c1,qG c5,qG c6] at hb
    cases hb
end Go.Proofs.YtkegmchjobphdaaGreatDoor
namespace Go.Proofs.YtkegmchjobphdaaGreatDoor
open Go Y
set_option maxRecDepth 100000
set_option maxHeartbeats 4000000
theorem Ur {r:Rf} (h:CU r=true):r.name ≠ []:=by
 rw [CU,qC] at h
 exact(Om h.1).1
theorem aHD {op n rel val:Int} {r:Rf} {st:List Int} (h:Av op n rel val r st=true):r.name ≠ []/\(op=5->1<=st.length)/\st.length<=100:=by
 have hf:=WK h
 refine⟨Ur hf.1,fun h5=>?_,?_⟩
 ·have:=hf.2.2.1 h5
  simp only [KW,qC,qJ] at this
  omega
 ·by_cases h5:op=5
  ·have:=hf.2.2.1 h5
   simp only [KW,qC,qJ] at this
   omega
  ·unfold Av at h
   split at h
   ·simp only [qC,qJ] at h
    rw [h.2];decide
   ·split at h
    ·simp only [qC,qJ] at h
     rw [h.2];decide
    ·cases h
theorem gX:∀ (d:Nat) (c:Cd) (left k:Nat),BQ d c left=some k->Tt c
 | 0,_,_,_,h=>by rw [BQ] at h;cases h
 | d+1,c,left,k,h=>by
  have hs:=aBL h
  cases hs with
  | leaf op n rel val r st h7 h8 h9 hb=>
   rw [Tt]
   exact⟨⟨fun _=>.inr (aHD hb),fun _=>rfl⟩,ML,by rw [LY];trivial⟩
  | neg a ha=>
   obtain⟨l,k,ha⟩:=ha
   rw [Tt,LY,LY]
   exact⟨⟨(fun h=>MGA),fun h=>absurd h ML⟩,by show 1<=100;decide,gX d a l k ha,trivial⟩
  | OE a b ha hb=>
   exact MDr
  | Sc a b ha hb=>
   exact MDr
theorem aM6:Tt Fy:=by
 rw [Fy,Tt,LY]
 exact⟨⟨fun _=>.inl rfl,fun _=>rfl⟩,ML,trivial⟩
theorem wR {l:List Int} (h:EE l=true):(∀ x∈l,-9999<=x/\x<=9999)/\l.length<=100:=by
 obtain⟨_,h2,h3⟩:=Zd h
 refine⟨fun x hx=>?_,by omega⟩
 have:=h3 x hx
 simp only [Im,qC,qJ] at this
 exact this
structure CaV (c:Cs):Prop where
 ok:aEk c
 one:∀ l d,(CG l d c.cond).length<=30
theorem wS (k a:Int) (nm:List UInt8):(Dm k a nm).length<=1:=by
 unfold Dm
 split <;> simp
mutual
theorem gY (l:List De) (x:De):∀ (d:Nat) (c:Cd) (left k:Nat),BQ d c left=some k->(CG l x c).length+k<=left
 | 0,_,_,_,h=>by rw [BQ] at h;cases h
 | d+1, .mk op n rel val r st [],left,k,h=>by
  rw [BQ] at h
  split at h
  ·cases h
  ·split at h
   ·rw [ko] at h
    injection h with h
    rw [CG]
    split
    ·simp;omega
    ·have:=wS (G6 l x op n val r st) l.length r.name
     omega
   ·cases h
 | d+1, .mk op n rel val r st (a::az),left,k,h=>by
  rw [BQ] at h
  split at h
  ·cases h
  ·split at h
   ·have:=Ze l x d (a::az) (left - 1) k h
    rw [Da] at this
    rw [CG];omega
   ·cases h
theorem Ze (l:List De) (x:De):∀ (d:Nat) (az:List Cd) (left k:Nat),az.foldlM (fun l c=>BQ d c l) left=some k->(Da l x az).length+k<=left
 | d,[],left,k,h=>by
  rw [ko] at h
  injection h with h
  rw [Da];simp;omega
 | d,a::az,left,k,h=>by
  rw [kM] at h
  cases hc:BQ d a left with
  | none=>rw [hc] at h;cases h
  | some m=>
   rw [hc] at h
   have h1:=gY l x d a left m hc
   have h2:=Ze l x d az m k h
   rw [Da,qD];omega
end
theorem gZ:∀ {l:List Cs},DX l=true->∀ c∈l,CaV c
 | [],_,c,hc=>by cases hc
 | [x],h,c,hc=>by
  simp only [DX,qC] at h
  rw [qP.1 hc]
  have hn:=wR h.1
  have hz:=aHE h.2
  exact⟨⟨by rw [hz];exact aM6,hn.1,hn.2⟩,fun l d=>by rw [hz,Fy,CG];simp⟩
 | x::y::r,h,c,hc=>by
  simp only [DX,qC] at h
  obtain⟨⟨h1,h0⟩,h2⟩:=h
  rcases qw.1 hc with rfl | hc
  ·have hn:=wR h1
   obtain⟨k,hk⟩:=jH.1 h0
   exact⟨⟨gX 8 c.cond 30 k hk,hn.1,hn.2⟩,fun l d=>by have:=gY l d 8 c.cond 30 k hk;omega⟩
  ·exact gZ (l:=y::r) h2 c hc
theorem gm {l:List Cs} (h:Bi l=true):l.length<=12/\∀ c∈l,CaV c:=by
 simp only [Bi,qC,qJ] at h
 exact⟨h.1.2,gZ h.2⟩
structure DcV (d:De):Prop where
 ok:aJ8 d
 n:0<=d.n/\d.n<=9999
 refs:d.refs.length<=8
 few:d.cases.length<=12
 cases:∀ c∈d.cases,CaV c
theorem aHF {d:De} (h:Bg d=true):DcV d:=by
 simp only [Bg,qC,qJ,qi] at h
 obtain⟨⟨⟨h1,h2⟩,h3⟩,h4⟩:=h
 have hn:0<=d.n/\d.n<=9999:=by
  simp only [DW,qC,qJ] at h1;exact h1
 have hr:∀ r∈d.refs,r.name ≠ []:=fun r hr=>Ur (h3 r hr)
 have key:∀ (hk:d.kind=1∨d.kind=2∨d.kind=3∨d.kind=4∨d.kind=5) (hb:d.kind=1∨d.kind=5->d.name=[]) (hm:d.kind=2∨d.kind=3∨d.kind=4->d.name ≠ []) (hp:¬ d.kind=3->d.Ae=[]) (hc:d.cases.length<=12/\∀ c∈d.cases,CaV c),DcV d:=fun hk hb hm hp hc=>
  ⟨⟨⟨hk,hb,hm,hp,hr⟩,by omega,by have:=hc.1;omega,fun c hx=>(hc.2 c hx).ok⟩,hn,h2,hc.1,hc.2⟩
 have h0:d.cases.length=0->d.cases.length<=12/\∀ c∈d.cases,CaV c:=fun e=>⟨by omega,fun c hc=>by rw [qY e] at hc;cases hc⟩
 unfold BP at h4
 split at h4
 ·rename_i k
  simp only [qC,qJ] at h4
  exact key (.inl k) (fun _=>h4.1.1.1) (fun h=>by omega) (fun _=>h4.1.1.2) (h0 h4.2)
 ·split at h4
  ·rename_i k
   simp only [qC,qJ] at h4
   exact key (.inr (.inl k)) (fun h=>by omega) (fun _=>(Om h4.1.1.1).1) (fun _=>h4.1.1.2) (h0 h4.2)
  ·split at h4
   ·rename_i k
    simp only [qC,kW,qJ] at h4
    exact key (.inr (.inr (.inl k))) (fun h=>by omega) (fun _=>(Om h4.1.1).1) (fun h=>absurd k h) (gm h4.2)
   ·split at h4
    ·rename_i k
     simp only [qC,qJ] at h4
     exact key (.inr (.inr (.inr (.inl k)))) (fun h=>by omega) (fun _=>(Om h4.1.1).1) (fun _=>h4.1.2) (h0 h4.2)
    ·split at h4
     ·rename_i k
      simp only [qC,qJ] at h4
      exact key (.inr (.inr (.inr (.inr k)))) (fun _=>h4.1.1.2) (fun h=>by omega) (fun _=>h4.1.2) (gm h4.2)
     ·cases h4
theorem QX {ds:List De} (h:CK ds=true):ds.length<=30/\∀ d∈ds,DcV d:=by
 obtain⟨h1,h2⟩:=Zf h
 exact⟨h1,fun d hd=>aHF (h2 d hd)⟩
theorem KJ (l:List De) (d:De):∀ (rs done:List Rf),(Am l d done rs).length<=2 * rs.length
 | [],_=>by rw [Am];simp
 | r::rs,done=>by
  have h1:=KJ l d rs (done++[r])
  have h2:=wS (IE l d r) l.length r.name
  rw [Am,qD,qD,qR]
  have h3:(if r∈done then [(⟨2,l.length,r.name⟩:Ac)] else []).length<=1:=by split <;> simp
  omega
theorem JF (l:List De) (d:De) (g:Int):∀ cs:List Cs,(∀ c∈cs,CaV c)->(Bd l d g cs).length<=31 * cs.length
 | [],_=>by show 0<=_;omega
 | c::cs,h=>by
  have h1:=JF l d g cs fun x hx=>h x (qh _ hx)
  have h2:=(h c (kC ..)).one l d
  have h3:(if KT d c.Ah g=true then [] else [(⟨9,l.length,[]⟩:Ac)]).length<=1:=by split <;> simp
  rw [Gf,qD,qD,qR]
  omega
theorem wT (l:List De) {d:De} (g:Int) (h:DcV d):(Dx l d g).length<=400:=by
 have h1:=KJ l d d.refs []
 have h2:=JF l d g d.cases h.cases
 have h3:(Cc l d).length<=1:=by unfold Cc;split <;> simp
 have h4:(BK l d).length<=1:=by unfold BK;split <;> simp
 have h5:(F6 l d).length<=1:=MIn
 have r1:=h.refs
 have r2:=h.few
 unfold Dx
 repeat' split
 all_goals simp only [qD,qR,qy]
 all_goals omega
theorem VH (g:Int):∀ (r l:List De),(∀ d∈r,DcV d)->(EP g l r).length<=400 * r.length
 | [],_,_=>by rw [EP];simp
 | d::r,l,h=>by
  have h1:=VH g r (l++[d]) fun x hx=>h x (qh _ hx)
  have h2:=wT l g (h d (kC ..))
  rw [EP,qD,qR];omega
theorem gV (ds:List De):(Fe ds).length<=1:=by
 unfold Fe
 split
 ·simp
 ·split <;> simp
end Go.Proofs.YtkegmchjobphdaaGreatDoor
namespace Go.Proofs.YtkegmchjobphdaaGreatDoor
open Go Y
set_option maxRecDepth 100000
set_option maxHeartbeats 40000000
theorem Za {W N m:Nat} {q:Int} (hW:W<=4 ^ N) (hN:N+m<=8) (hq:1<=m->2<=q/\q<=4) (j:Nat) (hj:j<=m):0<=(W:Int) * q ^ j/\(W:Int) * q ^ j<=65536:=by
 have h8:4 ^ N * 4 ^ j<=65536:=by
  rw [<- Nat.pow_add]
  exact kG (kY MBM (show N+j<=8 by omega)) ML
 by_cases h0:j=0
 ·subst h0
  rw [ja,vP]
  rw [vT,jX] at h8
  omega
 ·obtain⟨c,rfl⟩:∃ c:Nat,q=c:=⟨q.toNat,by have:=hq ME;omega⟩
  have hc:c<=4:=by have:=hq ME;omega
  have h1:W * c ^ j<=65536:=kG (jS hW (Nat.pow_le_pow_left hc j)) h8
  have e:(W:Int) * (c:Int) ^ j=((W * c ^ j:Nat):Int):=by rw [xS,Int.natCast_pow]
  rw [e];omega
theorem gW:∀ (r l:List De),(∀ d∈r,d.kind=3∨d.kind=4->d.n<=4)->BG l r<=4 ^ Ao l r
 | [],l,_=>qN _
 | d::r,l,h=>by
  rw [BG,Ao,Nat.pow_add]
  refine jS ?_ (gW r _ fun x hx=>h x (qh _ hx))
  by_cases hk:d.kind=3∨d.kind=4
  ·have:=h d (kC ..) hk
   exact Nat.pow_le_pow_left ME _
  ·have:bW l d=0:=by
    unfold bW
    rw [qG MBc,qG ME]
   rw [this];exact qN _
theorem Zb {ds:List De} {k:Nat} (hk:k<ds.length):Ao [] (ds.take (k+1))=Ao [] (ds.take k)+bW (ds.take k) (ds.getD k Aj)/\BG [] (ds.take (k+1))=BG [] (ds.take k) * (ds.getD k Aj).n.toNat ^ bW (ds.take k) (ds.getD k Aj)/\Bn (ds.take (k+1))=Bn (ds.take k)+(if (ds.getD k Aj).kind=5 then 1 else 0):=by
 rw [AU Aj hk]
 have h:=R5 (ds.take k) [] [ds.getD k Aj]
 refine⟨by rw [h.1];rfl,by rw [h.2];show _ * (_ * 1)=_;rw [jX];rfl,?_⟩
 rw [Bn,Bn,xC,qD,za]
 by_cases h5:(ds.getD k Aj).kind=5
 ·rw [qM h5,qM (by rw [qE h5])];rfl
 ·rw [qG h5,qG (by rw [qF h5];simp)];rfl
theorem Kt {ds:List De} (k:Nat):Ao [] (ds.take k)<=Ao [] ds:=by
 have h:=(R5 (ds.take k) [] (ds.drop k)).1
 rw [kE] at h
 omega
theorem aEj {ds:List De} {g:Int} (h:EP g [] ds=[]) {k:Nat} (hk:k<ds.length) (h3:(ds.getD k Aj).kind=3) (hp:¬ (ds.getD k Aj).Ae=[]):DL ds (ds.getD k Aj).Ae=DL (ds.take k) (ds.getD k Aj).Ae:=by
 have h1:=JU ds [] h k hk
 rw [kg] at h1
 obtain⟨t,ht,_⟩:=Rj h1 h3 hp
 have:=Sk (m:=ds.drop k) ht
 rw [kE] at this
 rw [DL,DL,this,ht]
theorem aOv {ds:List De} (b:Nat) (l:List Ac) (hv:ds.length<=30) {g:Int} (Bt:EP g [] ds=[]):A7 cx 138 [.ptr 0 0 0] (GQ ds b (EA ds) l) (ckQ (GQ ds b (EA ds) l) (.bool (IC ds))):=by
 have JM:ZZ ds ds.length (EA ds):=⟨fun nm hn=>by rw [xy];exact nA ds hn,hv,qN _⟩
 have hm:(ds.map De.cells).length=ds.length:=qB ..
 refine holdsN_of_vc Tryz.func138 rfl rfl rfl ?_
 refine⟨Nat,fun k=>[(0, .ptr 0 0 0),(3, .p (i64 (Ao [] (ds.take k):Nat))),(4, .p (i64 (Bn (ds.take k):Nat))),(5, .p (i64 (BG [] (ds.take k):Nat))),(13, .p (Dw ds)),(14, .p (i64 ds.length)),(15, .p (i64 k))],fun _=>GQ ds b (EA ds) l,fun k=>k<=ds.length/\Ao [] (ds.take k)<=8,fun k=>ds.length - k,?_,?_⟩
 ·exact⟨0,⟨qL _,by show 0<=8;decide⟩,AA [] [] [] rfl ⟨MC,rfl,rfl,rfl,rfl,qH (fun n:Nat=>i64 n) hm.symm,rfl,trivial⟩ (sk) rfl⟩
 rintro k ⟨k1,k2⟩
 refine qA (fun m1=>?_) (fun m1=>?_)
 rotate_left
 ·have m1:¬ (k:Int)<(ds.length:Nat):=m1
  obtain⟨B,hB⟩:∃ B,B=IC ds:=MX
  rw [<- hB]
  rw [Ar ME] at k2
  have et:ds.take k=ds:=Ar ME
  rw [IC,qF (show ¬ 8<Ao [] ds by omega),jC] at hB
  refine qA (fun e0=>?_) (fun e0=>?_)
  ·have e0:((Ao [] (ds.take k):Nat):Int)=0:=e0
   rw [et] at e0
   rw [qE (show Ao [] ds<1 by omega),vU] at hB
   exact MDU
  have e0:¬ ((Ao [] (ds.take k):Nat):Int)=0:=e0
  rw [et] at e0
  rw [qF (show ¬ Ao [] ds<1 by omega),jC] at hB
  refine qA (fun e1=>?_) (fun e1=>?_)
  ·have e1:(4:Int)<((Bn (ds.take k):Nat):Int):=e1
   rw [et] at e1
   rw [qE (show 4<Bn ds by omega),vU] at hB
   exact MDU
  have e1:¬ (4:Int)<((Bn (ds.take k):Nat):Int):=e1
  rw [et] at e1
  rw [qF (show ¬ 4<Bn ds by omega),jC] at hB
  refine qA (fun e2=>?_) (fun e2=>?_)
  ·have e2:(1024:Int)<((BG [] (ds.take k):Nat):Int):=e2
   rw [et] at e2
   rw [qE (show 1024<BG [] ds by omega)] at hB
   exact MDU
  ·have e2:¬ (1024:Int)<((BG [] (ds.take k):Nat):Int):=e2
   rw [et] at e2
   rw [qF (show ¬ 1024<BG [] ds by omega)] at hB
   exact⟨[],[],[], .returned (.p (.bool false)),GQ ds b (EA ds) l,rfl,sk,sk,by rw [hB],rfl⟩
 have m1:(k:Int)<(ds.length:Nat):=m1
 have hk:k<ds.length:=by omega
 have AO:=Fj hk
 have h1:=JU ds [] Bt k hk
 rw [kg] at h1
 have Jj:=fun h=>ND (d:=ds.getD k Aj) h1 h
 obtain⟨sN,sW,sG⟩:=Zb hk
 have hWl:BG [] (ds.take k)<=4 ^ Ao [] (ds.take k):=gW _ _ fun x hx hk3=>by
  obtain⟨j,hj,e⟩:=I7 Aj (kQ hx)
  have h2:=JU ds [] Bt j hj
  rw [e] at h2
  exact(ND h2 hk3).2
 have aHB:=fun h3 hp=>aEj Bt hk h3 hp
 have Zc:=fun h3 hp=>size_pos Bt hk h3 hp
 generalize ds.getD k Aj=d at AO Jj sN sW sG aHB Zc
 obtain⟨dk,dn,AQ,Ab,AJ,AZ⟩:=d
 simp only [bW] at sN sW sG Jj aHB Zc
 refine⟨_,MAR,?_⟩
 have w2:∀ m:Nat,(1<=m->2<=dn/\dn<=4)->((BG [] (ds.take k):Nat):Int) * dn ^ m=((BG [] (ds.take k) * dn.toNat ^ m:Nat):Int):=fun m hq=>by
  rw [xS,Int.natCast_pow]
  by_cases h0:m=0
  ·subst h0;rw [ja,ja]
  ·have:=hq ME
   rw [show((dn.toNat:Nat):Int)=dn by omega]
 refine qA (fun q5=>?_) (fun q5=>?_)
 ·have q5:dk=5:=q5
  rw [qG MBc,qG ME] at sN sW
  rw [qM q5] at sG
  obtain⟨G,hGe⟩:∃ G,G=Bn (ds.take k)+1:=MX
  have hgl:Bn (ds.take k)<=30:=MGQ
  have hN:=sN
  have hG:Bn (ds.take (k+1))=G:=by rw [sG,hGe]
  have hq:1<=0->2<=dn/\dn<=4:=fun h=>absurd h ML
  have hW2:=(w2 0 hq).trans (qH (fun z:Nat=>(z:Int)) sW.symm)
  refine⟨((G:Nat):Int),by rw [hGe,qZ];exact wrap_i64 MBc ME,?_⟩
  refine MGL ?_
  refine qA (fun g8=>?_) (fun g8=>?_)
  ·exact MJ4
  have g8:¬ (8:Int)<((Ao [] (ds.take k)+0:Nat):Int):=g8
  have hbd:=Za (q:=dn) hWl (show Ao [] (ds.take k)+0<=8 by omega) hq
  refine⟨Nat,fun j=>[(0, .ptr 0 0 0),(3, .p (i64 (Ao [] (ds.take k)+0:Nat))),(4, .p (i64 (G:Nat))),(5, .p (i64 ((BG [] (ds.take k):Nat) * dn ^ j))),(7, .ptr 3 0 0),(13, .p (Dw ds)),(14, .p (i64 ds.length)),(15, .p (i64 k)),(41, .p (i64 (0:Nat))),(42, .p (i64 j))],fun _=>⟨4,[(3,Bl ⟨dk,dn,AQ,Ab,AJ,AZ⟩),(2,Bz l),(1,EX (EA ds)),(0,Ej ds (b:Nat) 2 l.length)]⟩,fun j=>j<=0,fun j=>0 - j,?_,?_⟩
  ·exact MBO
  exact MCD
 have q5:¬ dk=5:=q5
 have hG:Bn (ds.take (k+1))=Bn (ds.take k):=by rw [sG,qG q5];rfl
 refine qA (fun q4=>?_) (fun q4=>?_)
 ·have q4:dk=4:=q4
  rw [qG ME,qM q4] at sN sW
  have hN:=sN
  have hq:1<=1->2<=dn/\dn<=4:=fun _=>Jj (.inr q4)
  exact MBq
 have q4:¬ dk=4:=q4
 refine qA (fun q3=>?_) (fun q3=>?_)
 ·have q3:dk=3:=q3
  rw [qM q3] at sN sW
  refine And.intro (fun hp=>?_) (fun hp=>?_)
  ·have hp:Ab=[]:=hp
   rw [qM hp] at sN sW
   have hN:=sN
   have hq:1<=1->2<=dn/\dn<=4:=fun _=>Jj (.inl q3)
   exact MBq
  ·have hp:¬ Ab=[]:=hp
   rw [qG hp] at sN sW
   have hf:=aHB q3 hp
   have hs:=Zc q3 hp
   have hS:=aHC b l JM hp
   rw [xy,hf] at hS
   obtain⟨m,hm⟩:∃ m:Nat,DL (ds.take k) Ab=(m:Nat):=MJh
   rw [hm] at hS
   rw [hm,kL] at sN sW
   have hN:=sN
   have hq:1<=m->2<=dn/\dn<=4:=fun _=>Jj (.inl q3)
   have hW2:=(w2 m hq).trans (qH (fun z:Nat=>(z:Int)) sW.symm)
   have hm6:m<=6:=by omega
   refine hS.holds.BB [] [] rfl (sk) (sk) fun e0 H0 hq=>?_
   obtain⟨rfl,rfl⟩:=hq
   refine⟨rfl,_,⟨4,(2,Bz l)::(1,EX (EA ds))::(0,Ej ds (b:Nat) 2 l.length)::[(3,Bl ⟨dk,dn,AQ,Ab,AJ,AZ⟩)]⟩,rfl,rfl,?_⟩
   refine⟨((Ao [] (ds.take k)+m:Nat):Int),MAz,?_⟩
   refine qA (fun g8=>?_) (fun g8=>?_)
   ·have g8:(8:Int)<((Ao [] (ds.take k)+m:Nat):Int):=g8
    exact M4
   have g8:¬ (8:Int)<((Ao [] (ds.take k)+m:Nat):Int):=g8
   have hbd:=Za (q:=dn) hWl (show Ao [] (ds.take k)+m<=8 by omega) hq
   refine⟨Nat,fun j=>[(0, .ptr 0 0 0),(3, .p (i64 (Ao [] (ds.take k)+m:Nat))),(4, .p (i64 (Bn (ds.take k):Nat))),(5, .p (i64 ((BG [] (ds.take k):Nat) * dn ^ j))),(7, .ptr 3 0 0),(13, .p (Dw ds)),(14, .p (i64 ds.length)),(15, .p (i64 k)),(41, .p (i64 (m:Nat))),(42, .p (i64 j))],fun _=>⟨4,[(3,Bl ⟨dk,dn,AQ,Ab,AJ,AZ⟩),(2,Bz l),(1,EX (EA ds)),(0,Ej ds (b:Nat) 2 l.length)]⟩,fun j=>j<=m,fun j=>m - j,?_,?_⟩
   ·exact MBO
   intro j hj
   refine qA (fun j1=>?_) (fun j1=>?_)
   ·have j1:(j:Int)<(m:Nat):=j1
    have Vw:=hbd (j+1) ME
    refine⟨(BG [] (ds.take k):Nat) * dn ^ (j+1),by rw [vV,<- vJ] at Vw ⊢;exact wrap_i64 MBc ME,?_⟩
    refine MAs ?_
    exact⟨j+1,by omega,AA [] [] [] rfl (sk) (sk) rfl,by show m - (j+1)<m - j;omega⟩
   have j1:¬ (j:Int)<(m:Nat):=j1
   have nE:j=m:=by omega
   subst nE
   refine MAs ?_
   exact MBD
 ·have q3:¬ dk=3:=q3
  rw [qG q3,qG q4] at sN sW
  have hN:=sN
  have hq:1<=0->2<=dn/\dn<=4:=fun h=>absurd h ML
  have hW2:=(w2 0 hq).trans (qH (fun z:Nat=>(z:Int)) sW.symm)
  refine MGL ?_
  refine qA (fun g8=>?_) (fun g8=>?_)
  ·exact MJ4
  have g8:¬ (8:Int)<((Ao [] (ds.take k)+0:Nat):Int):=g8
  have hbd:=Za (q:=dn) hWl (show Ao [] (ds.take k)+0<=8 by omega) hq
  refine⟨Nat,fun j=>[(0, .ptr 0 0 0),(3, .p (i64 (Ao [] (ds.take k)+0:Nat))),(4, .p (i64 (Bn (ds.take k):Nat))),(5, .p (i64 ((BG [] (ds.take k):Nat) * dn ^ j))),(7, .ptr 3 0 0),(13, .p (Dw ds)),(14, .p (i64 ds.length)),(15, .p (i64 k)),(41, .p (i64 (0:Nat))),(42, .p (i64 j))],fun _=>⟨4,[(3,Bl ⟨dk,dn,AQ,Ab,AJ,AZ⟩),(2,Bz l),(1,EX (EA ds)),(0,Ej ds (b:Nat) 2 l.length)]⟩,fun j=>j<=0,fun j=>0 - j,?_,?_⟩
  ·exact MBO
  exact MCD
abbrev pgS (ds:List De):Hp:=⟨2,[(1,EX []),(0,⟨TCk,false, .bx [.p (Dw ds), .p (i64 0), .mp 1, .p .Ad]⟩)]⟩
abbrev pgT (ds:List De) (b:Nat) (es:List (List UInt8 × PV)) (l:List Ac):Hp:=⟨3,[(2,Bz l),(1,EX es),(0,Ej ds (b:Nat) 2 l.length)]⟩
theorem aCe (ds:List De) (k:Int):A7 cx 132 [.ptr 0 0 0, .p (i64 k), .p .Ad] (pgS ds) (fun e H'=>e=.returned Bv/\H'=pgT ds 0 [] [⟨k,0,[]⟩]):=by
 refine MK1 ?_
 refine⟨Unit,fun _=>[(0, .ptr 0 0 0),(6, .ptr 2 0 0),(15, .p .Ad),(16, .p (i64 0)),(17, .p (i64 0))],fun _=>⟨3,[(2,⟨aJ5,false, .bx [.p (i64 k), .p (i64 0), .p (.str [])]⟩),(1,EX []),(0,⟨TCk,false, .bx [.p (Dw ds), .p (i64 0), .mp 1, .p .Ad]⟩)]⟩,fun _=>True,fun _=>0,?_,?_⟩
 ·exact MI2
 intro _ _
 refine MD9 ?_
 refine AR aM4 MK ?_
 refine M3 ?_
 exact⟨[],[(2,3)],[], .returned Bv,pgT ds 0 [] [⟨k,0,[]⟩],rfl,sk,sk,rfl,rfl⟩
abbrev aG8:OT:=(.pure 0 (.pure 1 (.pure 2 (.pure 3 (.pure 4 (.pure 5 (.pure 6 (.A8 7 [] .fin .nil))))))))
def faO:Ag:=⟨249,false, .bx [.p .NK, .fn (.func 133) [.ptr 0 0 0] [], .fn (.func 134) [.ptr 0 0 0] [], .fn (.func 135) [.ptr 0 0 0] [], .fn (.func 136) [.ptr 0 0 0] [], .fn (.func 137) [.ptr 0 0 0] []]⟩
def pgQ (ds:List De) (l:List Ac) (e:AE) (H':Hp):Prop:=e=.returned Bv/\∃ b es,H'=pgT ds b es l
abbrev pgH (ds:List De) (x:Nat × List Ac):Hp:=⟨4,[(3,faO),(2,Bz x.2),(1,EX (EA (ds.take x.1))),(0,Ej ds (x.1 - 1:Nat) 2 x.2.length)]⟩
theorem aEh {ds:List De} {k:Nat} (hk:k<ds.length):EA (ds.take (k+1))=EA (ds.take k)++(if (ds.getD k Aj).name=[]∨(Di (ds.take k) (ds.getD k Aj).name).isSome then [] else [((ds.getD k Aj).name,i64 (k:Nat))]):=by
 rw [AU Aj hk,gP,qj,show min k ds.length=k by omega]
theorem gU {ds:List De} {g:Int} {k:Nat} (hk:k<ds.length):EP g [] (ds.take (k+1))=EP g [] (ds.take k)++Dx (ds.take k) (ds.getD k Aj) g:=by
 rw [AU Aj hk,gK]
 show _++(_++[])=_
 rw [qU];rfl
theorem aM5 {ds:List De} {k:Nat} (hv:ds.length<=30) (hk:k<=ds.length):ZZ ds k (EA (ds.take k)):=⟨fun _ hn=>nA _ hn,hv,hk⟩
theorem aBK (ds:List De) (hv:CK ds=true):A7 cx 91 [.ptr 0 0 0] (pgS ds) (pgQ ds (allI ds)):=by
 obtain⟨hlen,hdv⟩:=QX hv
 have hm:(ds.map De.cells).length=ds.length:=qB ..
 have E8:∀ k,(Fe ds++EP (BD ds) [] (ds.take k)).length<=13000:=fun k=>by
  exact MGF
 obtain⟨R,hR⟩:∃ R,R=allI ds:=MX
 rw [<- hR]
 refine holdsN_of_vc Tryz.func91 rfl rfl rfl ?_
 apply cut
 case h=>
  intro key
  have bV:∀ X,X=Fe ds->(0:Nat)<=ds.length/\X=Fe ds++EP (BD ds) [] (ds.take 0):=fun X hX=>⟨qL _,by rw [hX];show _=Fe ds++[];rw [qU]⟩
  by_cases h0:ds=[]
  ·refine MIk ?_
   exact MBP
  ·have nC:1<=ds.length:=by
    exact MIN
   have hh:∃ t:De,(ds.map De.cells)[0]?=some t.cells/\(Fe ds=if t.kind=1 then [] else [⟨1,0,[]⟩]):=by
    cases ds with
    | nil=>exact absurd rfl h0
    | cons t r=>exact⟨t,rfl,rfl⟩
   obtain⟨⟨tk,tn,tnm,LA,trs,tcs⟩,ht,hd⟩:=hh
   refine MHu ?_
   refine⟨_,ME9,?_⟩
   refine And.intro (fun k1=>?_) (fun k1=>?_)
   ·have k1:tk=1:=k1
    simp only [qM k1] at hd
    exact⟨Nat × List Ac,fun x=>[(0, .ptr 0 0 0),(2, .ptr 3 0 0),(42, .p (Dw ds)),(43, .p (i64 ds.length)),(44, .p (i64 x.1))],pgH ds,fun x=>x.1<=ds.length/\x.2=Fe ds++EP (BD ds) [] (ds.take x.1),fun x=>ds.length - x.1,⟨(0,[]),bV [] hd.symm,AA [] [(3,2)] [(2,3)] rfl MH2 (sk) rfl⟩,key.get⟩
   ·have k1:¬ tk=1:=k1
    simp only [qG k1] at hd
    exact MBP
 case k=>
  rintro⟨k,cur⟩ ⟨k1,k2⟩
  simp only [] at k1 k2
  have IL:cur.length<=13000:=by rw [k2];exact E8 k
  refine qA (fun m1=>?_) (fun m1=>?_)
  rotate_left
  ·have m1:¬ (k:Int)<(ds.length:Nat):=m1
   have et:ds.take k=ds:=Ar ME
   rw [et] at k2
   have J2:k=ds.length:=by omega
   by_cases hb:cur=[]
   ·subst hb
    have Bt:EP (BD ds) [] ds=[]:=(qm.1 k2.symm).2
    have hRa:R=if IC ds then [⟨10,ds.length,[]⟩] else []:=MJo
    have hB:=aOv (k - 1) [] hlen Bt
    rw [show EA ds=EA (ds.take k) by rw [et]] at hB
    refine MJ ?_
    by_cases hbg:IC ds=true
    ·rw [qM hbg] at hRa
     rw [hbg] at hB
     refine hB.holds.BB [] [] rfl (sk) (sk) fun e0 H0 hq=>?_
     obtain⟨rfl,rfl⟩:=hq
     refine MHt ?_
     refine(Qo ds (ds.map De.cells).length (EA (ds.take k)) [] 10 MBV).holds.BB [] [] rfl (sk) (sk) fun e0 H0 hq=>?_
     obtain⟨rfl,rfl⟩:=hq
     refine⟨rfl,_,⟨5,(4,Bz [Ac.mk 10 ((ds.map De.cells).length:Nat) []])::(1,EX (EA (ds.take k)))::(0,Ej ds ((ds.map De.cells).length:Nat) 4 1)::[(3,faO)]⟩,rfl,rfl,?_⟩
     exact⟨[],[(2,4)],[], .returned Bv,pgT ds (ds.map De.cells).length (EA (ds.take k)) [⟨10,((ds.map De.cells).length:Nat),[]⟩],rfl,sk,sk,rfl,_,_,by rw [hRa,hm]⟩
    ·rw [qG hbg] at hRa
     rw [qQ] at hbg
     rw [hbg] at hB
     refine hB.holds.BB [] [] rfl (sk) (sk) fun e0 H0 hq=>?_
     obtain⟨rfl,rfl⟩:=hq
     refine MHt ?_
     exact⟨[],[],[], .returned Bv,pgT ds (k - 1) (EA (ds.take k)) [],rfl,sk,sk,rfl,k - 1,_,by rw [hRa]⟩
   ·have hRa:R=cur:=by
     exact MII
    have hl0:¬ cur.length=0:=fun e=>hb (qY e)
    refine MKV ?_
    exact⟨[],[],[], .returned Bv,pgT ds (k - 1) (EA (ds.take k)) cur,rfl,sk,sk,rfl,k - 1,_,by rw [hRa]⟩
  have m1:(k:Int)<(ds.length:Nat):=m1
  have hk:k<ds.length:=by omega
  have AO:=Fj hk
  have hd:=hdv _ (Aa Aj hk)
  have hC:=aM5 hlen k1
  have nD:=aEh hk
  have Ch:=gU (g:=BD ds) hk
  have k4:cur++Dx (ds.take k) (ds.getD k Aj) (BD ds)=Fe ds++EP (BD ds) [] (ds.take (k+1)):=by rw [Ch,<- qO,<- k2]
  have k5:(cur++Dx (ds.take k) (ds.getD k Aj) (BD ds)).length<=90000:=by rw [k4];have:=E8 (k+1);omega
  generalize ds.getD k Aj=d at AO hd nD k4 k5
  clear Ch k2 hR
  have hd:=hd.ok
  obtain⟨dk,dn,AQ,Ab,AJ,AZ⟩:=d
  simp only [] at nD
  refine⟨_,MAR,?_⟩
  have WJ:=hd.ok.kind
  have Iy:=hd.ok.bare
  have hname:=hd.ok.name
  simp only [] at WJ Iy hname
  by_cases hb:AQ=[]
  ·have aL1:BR (EA (ds.take k)) AQ=none:=by rw [hb];exact aG6 _
   rw [qM (.inl hb),qU] at nD
   rcases WJ with rfl | rfl | rfl | rfl | rfl
   ·have hG:=aG9 cur hC ⟨1,dn,AQ,Ab,AJ,AZ⟩ rfl k5
    generalize cur++Dx (ds.take k) ⟨1,dn,AQ,Ab,AJ,AZ⟩ (BD ds)=Ex at hG k4
    refine FI.seq rfl ?_
    refine⟨by show(0:Int)<=1/\(1:Int)<6;decide,?_⟩
    refine⟨_,rfl,?_⟩
    refine(hG).holds.BB [] [] rfl (sk) (sk) fun e0 H0 hq=>?_
    obtain⟨rfl,rfl⟩:=hq
    refine⟨rfl,_,⟨6,(5,Bz Ex)::(1,EX (EA (ds.take k)))::(0,Ej ds (k:Nat) 5 Ex.length)::[(4,Bl ⟨1,dn,AQ,Ab,AJ,AZ⟩),(3,faO)]⟩,rfl,rfl,?_⟩
    exact MCC
   ·exact absurd hb (hname (.inl rfl))
   ·exact absurd hb (hname (.inr (.inl rfl)))
   ·exact absurd hb (hname (.inr (.inr rfl)))
   ·have hG:=aJ6 cur hC ⟨5,dn,AQ,Ab,AJ,AZ⟩ hd rfl k5
    generalize cur++Dx (ds.take k) ⟨5,dn,AQ,Ab,AJ,AZ⟩ (BD ds)=Ex at hG k4
    refine FI.seq rfl ?_
    refine⟨by show(0:Int)<=5/\(5:Int)<6;decide,?_⟩
    refine⟨_,rfl,?_⟩
    refine(hG).holds.BB [] [] rfl (sk) (sk) fun e0 H0 hq=>?_
    obtain⟨rfl,rfl⟩:=hq
    refine⟨rfl,_,⟨6,(5,Bz Ex)::(1,EX (EA (ds.take k)))::(0,Ej ds (k:Nat) 5 Ex.length)::[(4,Bl ⟨5,dn,AQ,Ab,AJ,AZ⟩),(3,faO)]⟩,rfl,rfl,?_⟩
    exact MCC
  ·have hfa:=nA (ds.take k) hb
   have hor:(BR (EA (ds.take k)) AQ=none/\EA (ds.take (k+1))=EA (ds.take k)++[(AQ,i64 (k:Nat))])∨∃ i:Nat,BR (EA (ds.take k)) AQ=some (i64 (i:Nat))/\EA (ds.take (k+1))=EA (ds.take k):=by
    cases hi:Di (ds.take k) AQ with
    | none=>rw [hi] at hfa nD;exact .inl ⟨hfa,by rw [nD,qG (by intro h;rcases h with h | h;exact hb h;cases h)]⟩
    | some i=>rw [hi] at hfa nD;exact .inr ⟨i,hfa,by rw [nD,qM (.inr rfl),qU]⟩
   rcases WJ with rfl | rfl | rfl | rfl | rfl
   ·exact absurd (Iy (.inl rfl)) hb
   ·have hG:=aHA cur hC ⟨2,dn,AQ,Ab,AJ,AZ⟩ hd.ok rfl k5
    generalize cur++Dx (ds.take k) ⟨2,dn,AQ,Ab,AJ,AZ⟩ (BD ds)=Ex at hG k4
    refine FI.seq rfl ?_
    refine jy hor (fun hi=>?_) (fun hi=>?_)
    ·obtain⟨fI,hi2⟩:=hi
     refine⟨by show(0:Int)<=2/\(2:Int)<6;decide,?_⟩
     refine⟨_,rfl,?_⟩
     refine(hG).holds.BB [] [] rfl (sk) (sk) fun e0 H0 hq=>?_
     obtain⟨rfl,rfl⟩:=hq
     refine MFb ?_
     exact MCE
    ·obtain⟨i,fI,hi2⟩:=hi
     refine⟨by show(0:Int)<=2/\(2:Int)<6;decide,?_⟩
     refine⟨_,rfl,?_⟩
     refine(hG).holds.BB [] [] rfl (sk) (sk) fun e0 H0 hq=>?_
     obtain⟨rfl,rfl⟩:=hq
     refine MFb ?_
     exact MEq
   ·have hG:=aJ7 cur hC ⟨3,dn,AQ,Ab,AJ,AZ⟩ hd rfl ME k5
    generalize cur++Dx (ds.take k) ⟨3,dn,AQ,Ab,AJ,AZ⟩ (BD ds)=Ex at hG k4
    refine FI.seq rfl ?_
    refine jy hor (fun hi=>?_) (fun hi=>?_)
    ·obtain⟨fI,hi2⟩:=hi
     refine⟨by show(0:Int)<=3/\(3:Int)<6;decide,?_⟩
     refine⟨_,rfl,?_⟩
     refine(hG).holds.BB [] [] rfl (sk) (sk) fun e0 H0 hq=>?_
     obtain⟨rfl,rfl⟩:=hq
     refine MFa ?_
     exact MCE
    ·obtain⟨i,fI,hi2⟩:=hi
     refine⟨by show(0:Int)<=3/\(3:Int)<6;decide,?_⟩
     refine⟨_,rfl,?_⟩
     refine(hG).holds.BB [] [] rfl (sk) (sk) fun e0 H0 hq=>?_
     obtain⟨rfl,rfl⟩:=hq
     refine MFa ?_
     exact MEq
   ·have hG:=aEi cur hC ⟨4,dn,AQ,Ab,AJ,AZ⟩ hd rfl k5
    generalize cur++Dx (ds.take k) ⟨4,dn,AQ,Ab,AJ,AZ⟩ (BD ds)=Ex at hG k4
    refine FI.seq rfl ?_
    refine jy hor (fun hi=>?_) (fun hi=>?_)
    ·obtain⟨fI,hi2⟩:=hi
     refine⟨by show(0:Int)<=4/\(4:Int)<6;decide,?_⟩
     refine⟨_,rfl,?_⟩
     refine(hG).holds.BB [] [] rfl (sk) (sk) fun e0 H0 hq=>?_
     obtain⟨rfl,rfl⟩:=hq
     refine MFZ ?_
     exact MCE
    ·obtain⟨i,fI,hi2⟩:=hi
     refine⟨by show(0:Int)<=4/\(4:Int)<6;decide,?_⟩
     refine⟨_,rfl,?_⟩
     refine(hG).holds.BB [] [] rfl (sk) (sk) fun e0 H0 hq=>?_
     obtain⟨rfl,rfl⟩:=hq
     refine MFZ ?_
     exact MEq
   ·exact absurd (Iy (.inr rfl)) hb
def scO (ds:List De):Ag:=⟨39,false, .bx [.p (Dw ds)]⟩
theorem aG7 (ds:List De) (hb:NH ds):Pure cx 56 [JV ds] (·=.ret (aDv ds)):=by
 have hC:=aF1 ds hb
 rw [aFz] at hC
 by_cases hv:CK ds=true
 ·have hI:aDv ds=[XQ (allI ds),i64 0]:=by rw [aDv,qM hv]
  rw [hI]
  rw [qM hv] at hC
  refine pure_of_vc Tryz.func56 rfl rfl rfl ?_
  refine hC.eq rfl ?_
  refine MJ ?_
  refine(aBK ds hv).holds.BB [] [(0,2)] rfl (sk) (sk) fun e0 H0 hq=>?_
  obtain⟨rfl,b,es,rfl⟩:=hq
  generalize allI ds=R
  refine⟨rfl,_,⟨4,(3,Bz R)::(1,EX es)::(2,Ej ds (b:Nat) 3 R.length)::[(0,scO ds)]⟩,rfl,rfl,?_⟩
  exact Gy (XQ R) (i64 0) rfl ⟨_,rfl,by show 0+R.length<=(R.map Ac.cells).length;simp,AB MBV⟩ rfl rfl
 ·have hI:aDv ds=[XQ [],i64 380]:=by rw [aDv,qG hv]
  rw [hI]
  rw [qG hv] at hC
  refine pure_of_vc Tryz.func56 rfl rfl rfl ?_
  refine hC.eq rfl ?_
  refine And.intro (fun h=>absurd (show(380:Int)=0 from h) ML) (fun _=>?_)
  exact Gy (XQ []) (i64 380) rfl (.inr (.inr MKC)) rfl rfl
theorem wO (ds:List De) (hb:NH ds):Pure cx 33 [JV ds] (·=.ret [i64 (Bj ds)]):=by
 have hI:=aG7 ds hb
 rw [aDv] at hI
 by_cases hv:CK ds=true
 ·rw [qM hv] at hI
  by_cases hn:allI ds=[]
  ·have hs:Bj ds=0:=by rw [Bj,qM hv,qM hn]
   rw [hs]
   rw [hn] at hI
   refine pure_of_vc Tryz.func33 rfl rfl rfl ?_
   refine hI.eq rfl ?_
   refine MJ ?_
   refine MD9 ?_
   exact MAl
  ·have hs:Bj ds=390:=by rw [Bj,qM hv,qG hn]
   have hl:1<=(allI ds).length:=zJ.2 hn
   rw [hs]
   generalize allI ds=R at hI hl
   refine pure_of_vc Tryz.func33 rfl rfl rfl ?_
   refine hI.eq rfl ?_
   refine MJ ?_
   exact MFp
 ·rw [qG hv] at hI
  have hs:Bj ds=380:=by rw [Bj,qG hv]
  rw [hs]
  refine pure_of_vc Tryz.func33 rfl rfl rfl ?_
  refine hI.eq rfl ?_
  refine And.intro (fun h=>absurd (show(380:Int)=0 from h) ML) (fun _=>?_)
  exact MAl
theorem ZY (a:List UInt8) (x:PV) (b:List UInt8):∀ es:List (List UInt8 × PV),BR (Ed es a x) b=if b=a then some x else BR es b
 | []=>by
  show(match decide (b=a) with | true=>some x | false=>none)=if b=a then some x else none
  by_cases h:b=a
  ·rw [qE h,qM h]
  ·rw [qF h,qG h]
 | (k,y)::r=>by
  rw [Ed]
  by_cases h:a=k
  ·rw [qE h]
   show BR ((k,x)::r) b=_
   rw [BR,BR]
   by_cases h2:b=k
   ·rw [qE h2,qM (h2.trans h.symm)]
   ·rw [qF h2,qG (fun e=>h2 (e.trans h))]
  ·rw [qF h]
   show BR ((k,y)::Ed r a x) b=_
   rw [BR,BR,ZY a x b r]
   by_cases h2:b=k
   ·rw [qE h2]
    show some y=if b=a then some x else some y
    rw [qG (fun e=>h (e.symm.trans h2))]
   ·rw [qF h2]
structure SzM (ds:List De) (k:Nat) (es:List (List UInt8 × PV)):Prop where
 one:BR es []=some (i64 1)
 Ae:∀ nm,nm ≠ []->∀ t,EC (ds.take k) nm=some t->t.kind=2->BR es nm=some (i64 t.n)
theorem wP {ds:List De} {k:Nat} (hk:k<ds.length) {nm:List UInt8} {t:De} (h:EC (ds.take (k+1)) nm=some t):EC (ds.take k) nm=some t∨(EC (ds.take k) nm=none/\t=ds.getD k Aj/\t.name=nm):=by
 rw [AU Aj hk] at h
 cases hf:EC (ds.take k) nm with
 | some u=>rw [Sk hf] at h;exact .inl h
 | none=>
  have hm:=Tn h
  rw [NF,List.find?_append,<- NF,hf] at h
  have h2:=List.mem_of_find?_eq_some (show [ds.getD k Aj].find? (fun d=>decide (d.name=nm))=some t from h)
  exact .inr ⟨rfl,qP.1 h2,hm.2⟩
theorem aFw {l:List De} {d:De} {g:Int} (h:Dx l d g=[]) (hk:d.kind=2∨d.kind=3∨d.kind=4):EC l d.name=none:=by
 have ht:Cc l d=[]:=by
  unfold Dx at h
  rcases hk with hk | hk | hk
  ·rw [qG ME,qM hk] at h
   exact(qm.1 h).1
  ·rw [qG MBc,qG ME,qM hk] at h
   exact(qm.1 h).1
  ·rw [qG MDV,qG MBc,qG ME,qM hk] at h
   exact(qm.1 h).1
 unfold Cc at ht
 split at ht
 ·cases ht
 ·rename_i hn
  cases hf:Di l d.name with
  | none=>exact aEf hf
  | some i=>rw [hf] at hn;exact absurd rfl hn
theorem SzM.put {ds:List De} {k:Nat} {es:List (List UInt8 × PV)} (h:SzM ds k es) (hk:k<ds.length) (h2:EC (ds.take k) (ds.getD k Aj).name=none) (hn:(ds.getD k Aj).name ≠ []):SzM ds (k+1) (Ed es (ds.getD k Aj).name (i64 (ds.getD k Aj).n)):=by
 refine⟨by rw [ZY,qG (fun e=>hn e.symm)];exact h.one,fun nm F4 t ht O6=>?_⟩
 rw [ZY]
 rcases wP hk ht with h3 | ⟨h3,h4,h5⟩
 ·rw [qG (fun e=>by rw [e,h2] at h3;cases h3)]
  exact h.Ae nm F4 t h3 O6
 ·rw [qM (by rw [<- h5,h4]),h4]
theorem SzM.skip {ds:List De} {k:Nat} {es:List (List UInt8 × PV)} (h:SzM ds k es) (hk:k<ds.length) (h2:¬ (ds.getD k Aj).kind=2):SzM ds (k+1) es:=by
 refine⟨h.one,fun nm F4 t ht O6=>?_⟩
 rcases wP hk ht with h3 | ⟨h3,h4,h5⟩
 ·exact h.Ae nm F4 t h3 O6
 ·rw [h4] at O6;exact absurd O6 h2
end Go.Proofs.YtkegmchjobphdaaGreatDoor
namespace Go.Proofs.YtkegmchjobphdaaGreatDoor
open Go Y
set_option maxRecDepth 100000
set_option maxHeartbeats 4000000
theorem eT {pl:List UInt8} {u:De}:∀ {l:List De},EC l pl=some u->u.kind=2->LH l pl=u.n
 | [],h,_=>by trivial
 | d::r,h,hk=>by
  rw [NF,jO] at h
  rw [LH]
  by_cases hn:d.name=pl
  ·simp_all
  ·rw [qF hn] at h
   rw [qG (fun e=>hn e.2)]
   exact eT (by rw [NF];exact h) hk
theorem OH {l:List De} {d:De}:∀ {rs done:List Rf},Am l d done rs=[]->∀ r∈rs,IE l d r=0
 | x::rs,done,h,r,hr=>by
  rw [Am] at h
  have h1:=(qm.1 h).2
  have h2:=qm.1 h1
  rcases qw.1 hr with rfl | hr
  ·exact NC.1 h2.1
  ·exact OH h2.2 r hr
theorem aDs {l:List De} {d:De} {g:Int} (ho:bH d) (hr2:d.kind=2->d.refs=[]) (hr1:d.kind=1->d.refs=[]) (h:Dx l d g=[]):∀ r∈d.refs,IE l d r=0:=by
 intro r hr
 have hk:=ho.kind
 unfold Dx at h
 rcases hk with hk | hk | hk | hk | hk
 ·simp_all
 ·simp_all
 ·rw [qG MBc,qG ME,qM hk] at h
  have:=(qm.1 (qm.1 (qm.1 (qm.1 h).2).2).2).1
  grind [OH]
 ·rw [qG MDV,qG MBc,qG ME,qM hk] at h
  exact OH (qm.1 (qm.1 h).2).2 r hr
 ·rw [qG MI8,qG MDV,qG MBc,qG ME] at h
  exact OH (qm.1 h).1 r hr
structure BN (ds:List De):Prop where
 valid:CK ds=true
 clean:allI ds=[]
section
variable {ds:List De} (h:BN ds)
include h
theorem BN.one {k:Nat} (hk:k<ds.length):Dx (ds.take k) (ds.getD k Aj) (BD ds)=[]:=by
 have:=JU ds [] (L8 h.clean).2.1 k hk
 trivial
theorem BN.ok {k:Nat} (hk:k<ds.length):bH (ds.getD k Aj):=((QX h.valid).2 _ (Aa Aj hk)).ok.ok
theorem BN.bT:aFv ds:=by
 intro k hk h3 j hj e
 have h1:=aFw (h.one hk) h3
 have h2:Di (ds.take k) (ds.getD k Aj).name=none:=by
  cases hf:Di (ds.take k) (ds.getD k Aj).name with
  | none=>rfl
  | some i=>grind [EC]
 refine Uq.1 h2 (ds.getD j Aj) ?_ e
 rw [<- QY Aj hj]
 grind
theorem BN.size {k:Nat} (hk:k<ds.length) (h3:(ds.getD k Aj).kind=3) (hp:¬ (ds.getD k Aj).Ae=[]):∃ u,EC (ds.take k) (ds.getD k Aj).Ae=some u/\u.kind=2/\LH ds (ds.getD k Aj).Ae=u.n/\1<=u.n/\u.n<=6:=by
 obtain⟨u,hu,O6⟩:=Rj (h.one hk) h3 hp
 have hs:=size_pos (L8 h.clean).2.1 hk h3 hp
 rw [DL,hu] at hs
 simp only [O6,jv] at hs
 refine⟨u,hu,O6,?_,hs⟩
 have:=Sk (m:=ds.drop k) hu
 rw [kE] at this
 exact eT this O6
theorem BN.refs {j:Nat} (hj:j<ds.length) {r:Rf} (hr:r∈(ds.getD j Aj).refs):CU r=true/\IE (ds.take j) (ds.getD j Aj) r=0:=by
 have hv:=h.valid
 simp only [CK,qC] at hv
 have hd:=qi.1 hv.2 _ (Aa Aj hj)
 simp only [Bg,qC] at hd
 refine⟨qi.1 hd.1.2 r hr,aDs (h.ok hj) (fun e=>?_) (fun e=>?_) (h.one hj) r hr⟩
 ·have h2:=hd.2
  unfold BP at h2
  simp_all
 ·have h2:=hd.2
  unfold BP at h2
  simp_all
theorem BN.ref {j:Nat} (hj:j<ds.length) {r:Rf} (hr:r∈(ds.getD j Aj).refs):∃ k,k<=j/\((ds.getD k Aj).kind=3∨(ds.getD k Aj).kind=4)/\(ds.getD k Aj).name=r.name /\
  (r.mode=0∨r.mode=1∨r.mode=2∨r.mode=3)/\0<=r.n/\(r.mode=0->Fh ds (ds.getD k Aj)=1)/\(r.mode=2->r.n<(Fh ds (ds.getD k Aj):Nat))/\Sj (ds.take j) (ds.getD j Aj) r=some (ds.getD k Aj).n/\(k=j->r.mode=1/\1<=r.n/\(ds.getD j Aj).kind=3/\¬ (ds.getD j Aj).Ae=[])/\r.n<=9999:=by
 obtain⟨hB,hI⟩:=h.refs hj hr
 have hrn:r.name ≠ []:=Ur hB
 have Sl:(r.mode=0∨r.mode=1∨r.mode=2∨r.mode=3)/\0<=r.n/\r.n<=9999:=by
  simp only [CU,qC] at hB
  have hB:=hB.2
  split at hB
  ·grind
  ·split at hB
   ·rename_i e
    simp only [qC,DW,qJ] at hB
    omega
   ·split at hB
    ·rename_i e
     simp only [qC,DW,qJ] at hB
     omega
    ·cases hB
 rw [IE] at hI
 cases hf:Di (ds.take j) r.name with
 | none=>
  rw [EC,hf] at hI
  simp only [Option.map_none] at hI
  by_cases ho:O7 (ds.getD j Aj) r=true
  ·simp only [O7,qC,qJ] at ho
   refine⟨j,qN _, .inl ho.1,ho.2.2.1.symm,Sl.1,Sl.2.1,fun e=>by omega,fun e=>by omega,?_,fun _=>⟨ho.2.2.2.1,ho.2.2.2.2.2,ho.1,ho.2.1⟩,Sl.2.2⟩
   rw [Sj,EC,hf]
   simp_all
  simp_all
 | some k=>
  obtain⟨J2,hv⟩:=aFx hf
  have GL:=Sm hf
  rw [qj] at GL
  have hkj:k<j:=by omega
  have F4:(ds.getD k Aj).name=r.name:=by rw [<- QY Aj hkj];exact GL.2
  rw [hv] at hI
  simp only [] at hI
  have II:PT (ds.take j) (ds.getD j Aj) (ds.getD k Aj) r=false:=by
   by_cases hp:PT (ds.take j) (ds.getD j Aj) (ds.getD k Aj) r=true
   ·simp_all
   ·simpa using hp
  have DF:=h.ok J2
  have NG:(ds.getD k Aj).kind=3∨(ds.getD k Aj).kind=4:=by
   have hkd:=DF.kind
   have Iy:=DF.bare
   unfold PT at II
   split at II
   ·cases II
   ·simp_all
  refine⟨k,by omega,NG,F4,Sl.1,Sl.2.1,fun e=>?_,fun e=>?_,by rw [Sj,hv];grind,fun e=>absurd e ME,Sl.2.2⟩
  ·unfold PT at II
   rw [qG ME] at II
   by_cases hp:(ds.getD k Aj).Ae=[]
   ·exact IK NG hp
   simp_all
  ·unfold PT at II
   rw [qG ME] at II
   by_cases hp:(ds.getD k Aj).Ae=[]
   ·simp_all
   ·rw [qG hp,qG ME,qM e] at II
    have aOJ:=kP II
    have h3:(ds.getD k Aj).kind=3:=by
     rcases NG with e3 | e4
     ·exact e3
     ·exact absurd (DF.Ae ME) hp
    obtain⟨u,hu,O6,hs,O0,_⟩:=h.size J2 h3 hp
    have hu2:EC (ds.take j) (ds.getD k Aj).Ae=some u:=by
     have e1:ds.take j=ds.take k++(ds.take j).drop k:=by
      conv=>lhs;rw [<- kE k (ds.take j)]
      rw [jT,xG ME]
     rw [e1];exact Sk hu
    rw [DL,hu2] at aOJ
    simp only [O6,jv] at aOJ
    grind [I9]
end
end Go.Proofs.YtkegmchjobphdaaGreatDoor
namespace Go.Proofs.YtkegmchjobphdaaGreatDoor
open Go Y
set_option maxRecDepth 100000
set_option maxHeartbeats 4000000
theorem JA {l:List Mb} {r:Rf} {idx:Int} {i:Nat}:i∈FP l r idx ↔ i<l.length/\pz (l.getD i FO) r idx=true:=by
 grind [FP]
theorem XP {l:List Mb} {refs:List Rf} {idx:Int} {i:Nat}:i∈Dn l refs idx ↔ ∃ r∈refs,i∈FP l r idx:=by
 rw [Dn,je,xP,ve]
 constructor
 ·rintro⟨h1,r,hr,h2⟩
  exact⟨r,hr,JA.2 ⟨h1,h2⟩⟩
 ·rintro⟨r,hr,h⟩
  have:=JA.1 h
  grind
abbrev EH (l:List Nat):List Int:=l.map fun i=>((i:Nat):Int)
theorem lK (l:List Mb) (refs:List Rf) (idx:Int):X0 (EH (Dn l refs idx)):=by
 unfold X0 EH
 rw [List.pairwise_map]
 have h:=(List.pairwise_lt_range (n:=l.length)).filter fun i=>refs.any fun r=>pz (l.getD i FO) r idx
 exact h.imp fun h=>by omega
theorem aJT {l:List Mb} {refs:List Rf} {idx:Int} {X:List Nat} {s:List Int} (hX:∀ i,i∈X ↔ ∃ r∈refs,i∈FP l r idx) (hp:s.Perm (EH X)) (hs:s.Pairwise (·<=·)):GU s=EH (Dn l refs idx):=by
 refine lN (aJU s hs) (lK l refs idx) fun y=>?_
 rw [lQ,hp.mem_iff]
 constructor
 ·intro h
  obtain⟨i,hi,rfl⟩:=qz.1 h
  exact qz.2 ⟨i,XP.2 ((hX i).1 hi),rfl⟩
 ·intro h
  obtain⟨i,hi,rfl⟩:=qz.1 h
  exact qz.2 ⟨i,(hX i).2 (XP.1 hi),rfl⟩
theorem aDr (l:List Mb) (refs:List Rf) (idx:Int):(Dn l refs idx).Nodup:=List.nodup_range.filter _
theorem IJ {l:List Mb} {refs:List Rf} {idx:Int}:∀ i∈Dn l refs idx,i<l.length:=fun i hi=>by
 obtain⟨r,_,h⟩:=XP.1 hi
 exact(JA.1 h).1
end Go.Proofs.YtkegmchjobphdaaGreatDoor
namespace Go.Proofs.YtkegmchjobphdaaGreatDoor
open Go Y
set_option maxRecDepth 100000
set_option maxHeartbeats 4000000
inductive NA (l:List De) (x:De):Cd->Prop
 | no (n rel val:Int) (r:Rf) (st:List Int):NA l x (.mk 0 n rel val r st [])
 | leaf (op n rel val:Int) (r:Rf) (st:List Int) (rW:op=1∨op=2∨op=3∨op=4∨op=5∨op=6) (hr:r∈x.refs) (h3:r.mode=3 ↔ op=6) (Lc:op=6->0<=val) (LJ:st.length<=8) (hv:∀ k,Sj l x r=some k->FQ op n val st<k):NA l x (.mk op n rel val r st [])
 | neg (n rel val:Int) (r:Rf) (st:List Int) (a:Cd) (ha:NA l x a):NA l x (.mk 7 n rel val r st [a])
 | OE (n rel val:Int) (r:Rf) (st:List Int) (a b:Cd) (ha:NA l x a) (hb:NA l x b):NA l x (.mk 8 n rel val r st [a,b])
 | Sc (n rel val:Int) (r:Rf) (st:List Int) (a b:Cd) (ha:NA l x a) (hb:NA l x b):NA l x (.mk 9 n rel val r st [a,b])
theorem Ri {l:List De} {d:De} {op n val:Int} {r:Rf} {st:List Int} (h:G6 l d op n val r st=0):r∈d.refs/\(r.mode=3->op=6)/\∀ k,Sj l d r=some k->FQ op n val st<k:=by
 grind [G6]
theorem aFs {f:Nat->Cd->Option Nat} {a:Cd} {az:List Cd} {m k:Nat} (h:(a::az).foldlM f m=some k):∃ q,f m a=some q/\az.foldlM f q=some k:=by
 rw [kM] at h
 cases hq:f m a with
 | none=>simp_all
 | some q=>simp_all
theorem lM (l:List De) (x:De):∀ (d:Nat) (c:Cd) (left k:Nat),BQ d c left=some k->CG l x c=[]->NA l x c
 | 0,_,_,_,h,_=>by trivial
 | d+1, .mk op n rel val r st ar,left,k,h,hI=>by
  rw [BQ] at h
  split at h
  ·cases h
  split at h
  rotate_left
  ·cases h
  rename_i hh
  unfold Ay at hh
  split at hh
  ·simp only [qC,qJ] at hh
   obtain⟨hl,ha⟩:=hh
   obtain rfl:=qY ha
   rw [CG] at hI
   unfold Av at hl
   split at hl
   ·rename_i rW
    simp only [qC,qJ] at hl
    rw [qG ME,NC] at hI
    obtain⟨t1,t2,t3⟩:=Ri hI
    refine .leaf _ _ _ _ _ _ ME t1 ⟨t2,fun e=>by omega⟩ (fun e=>by omega) (by rw [hl.2];simp) t3
   ·split at hl
    ·rename_i rW
     simp only [qC,qJ,KW] at hl
     rw [qG ME,NC] at hI
     obtain⟨t1,t2,t3⟩:=Ri hI
     refine .leaf _ _ _ _ _ _ ME t1 ⟨t2,fun e=>by omega⟩ (fun e=>by omega) hl.2.1.2 t3
    ·split at hl
     ·rename_i rW
      simp only [qC,qJ,DW] at hl
      rw [qG ME,NC] at hI
      obtain⟨t1,t2,t3⟩:=Ri hI
      refine .leaf _ _ _ _ _ _ ME t1 ⟨t2,fun _=>hl.1.1.1.1.1.2⟩ (fun e=>by omega) (by rw [hl.2];simp) t3
     ·cases hl
  ·rename_i hN
   simp only [qC,qJ] at hh
   obtain⟨ha,_⟩:=hh
   unfold Az at ha hN
   split at ha
   ·rename_i h7
    subst h7
    match ar,ha,h,hI with
    | [a],_,h,hI=>
     obtain⟨q,hq,_⟩:=aFs h
     rw [CG] at hI
     exact .neg _ _ _ _ _ _ (lM l x d a _ _ hq (qm.1 hI).1)
   ·split at ha
    ·rename_i h89
     match ar,ha,h,hI with
     | [a,b],_,h,hI=>
      obtain⟨q,hq,h⟩:=aFs h
      obtain⟨q2,QW,_⟩:=aFs h
      rw [CG,Da] at hI
      have hI2:=qm.1 hI
      have hb:=(qm.1 hI2.2).1
      have hfa:=lM l x d a _ _ hq hI2.1
      have hfb:=lM l x d b _ _ QW hb
      rcases h89 with rfl | rfl
      ·exact .OE _ _ _ _ _ _ _ hfa hfb
      ·exact .Sc _ _ _ _ _ _ _ hfa hfb
    simp_all
theorem aFt {l:List De} {x:De}:∀ {c:Cd},F9 c=true->NA l x c
 | .mk op n rel val r st ar,h=>by
  simp only [F9,qC,qJ] at h
  obtain⟨⟨rfl,_⟩,h⟩:=h
  obtain rfl:=qY h
  exact .no ..
theorem aJR:∀ {c:Cd},F9 c=true->∃ n rel val r st,c=.mk 0 n rel val r st []
 | .mk op n rel val r st ar,h=>by
  simp only [F9,qC,qJ] at h
  simp_all
theorem X7:∀ {l:List Cs},DX l=true->∀ c∈l,EE c.Ah=true/\(F9 c.cond=true∨(BQ 8 c.cond 30).isSome=true)
 | [],_,c,hc=>by cases hc
 | [x],h,c,hc=>by
  grind [DX]
 | x::y::r,h,c,hc=>by
  simp only [DX,qC] at h
  rcases qw.1 hc with rfl | hc
  ·simp_all
  ·exact X7 (l:=y::r) h.2 c hc
theorem X8:∀ {l:List Cs},DX l=true->l ≠ []->∃ c∈l,F9 c.cond=true
 | [],_,h=>absurd rfl h
 | [x],h,_=>by
  simp only [DX,qC] at h
  simp_all
 | x::y::r,h,_=>by
  simp only [DX,qC] at h
  obtain⟨c,hc,e⟩:=X8 (l:=y::r) h.2 (by simp)
  exact⟨c,qh _ hc,e⟩
theorem aAc {l:List De} {d:De} {g:Int} {cs:List Cs} (h:Bd l d g cs=[]):∀ c∈cs,CG l d c.cond=[]/\KT d c.Ah g=true:=by
 intro c hc
 rw [Bd,List.flatMap_eq_nil_iff] at h
 simp_all
theorem eD (p:List De) (d:De) (r:List De):AY p (d::r)=EB p d++AY p r:=by rfl
section
variable {ds:List De} (h:BN ds)
include h
theorem BN.Bg {j:Nat} (hj:j<ds.length):Bg (ds.getD j Aj)=true:=by
 have hv:=h.valid
 grind [CK]
theorem BN.Bi {j:Nat} (hj:j<ds.length) (hk:(ds.getD j Aj).kind=3∨(ds.getD j Aj).kind=5):Bi (ds.getD j Aj).cases=true:=by
 have hd:=h.Bg hj
 simp only [Go.Proofs.YtkegmchjobphdaaGreatDoor.Bg,qC] at hd
 have h2:=hd.2
 unfold BP at h2
 grind
theorem BN.Bd {j:Nat} (hj:j<ds.length) (hk:(ds.getD j Aj).kind=3∨(ds.getD j Aj).kind=5):Bd (ds.take j) (ds.getD j Aj) (BD ds) (ds.getD j Aj).cases=[]:=by
 have h1:=h.one hj
 unfold Dx at h1
 rcases hk with e | e
 ·simp_all
 simp_all
theorem BN.case {j:Nat} (hj:j<ds.length) (hk:(ds.getD j Aj).kind=3∨(ds.getD j Aj).kind=5) {c:Cs} (hc:c∈(ds.getD j Aj).cases):NA (ds.take j) (ds.getD j Aj) c.cond/\KT (ds.getD j Aj) c.Ah (BD ds)=true/\1<=c.Ah.length/\c.Ah.length<=8:=by
 have hB:=h.Bi hj hk
 simp only [Go.Proofs.YtkegmchjobphdaaGreatDoor.Bi,qC,qJ] at hB
 obtain⟨h1,h2⟩:=X7 hB.2 c hc
 obtain⟨h3,h4⟩:=aAc (h.Bd hj hk) c hc
 simp only [EE,qC,qJ] at h1
 refine⟨?_,h4,h1.1.1,h1.1.2⟩
 rcases h2 with h2 | h2
 ·exact aFt h2
 ·obtain⟨k,hk⟩:=jH.1 h2
  grind [lM]
theorem BN.few {j:Nat} (hj:j<ds.length) (hk:(ds.getD j Aj).kind=3∨(ds.getD j Aj).kind=5):1<=(ds.getD j Aj).cases.length/\(ds.getD j Aj).cases.length<=12:=by
 have hB:=h.Bi hj hk
 simp only [Go.Proofs.YtkegmchjobphdaaGreatDoor.Bi,qC,qJ] at hB
 exact hB.1
theorem BN.last {j:Nat} (hj:j<ds.length) (hk:(ds.getD j Aj).kind=3∨(ds.getD j Aj).kind=5):∃ c∈(ds.getD j Aj).cases,∃ n rel val r st,c.cond=.mk 0 n rel val r st []:=by
 have hB:=h.Bi hj hk
 simp only [Go.Proofs.YtkegmchjobphdaaGreatDoor.Bi,qC,qJ] at hB
 obtain⟨c,hc,e⟩:=X8 hB.2 (fun e=>MAe)
 grind [aJR]
theorem BN.member {m:Mb} (hm:m∈AY ds ds):∃ j,j<ds.length/\m.d=ds.getD j Aj/\((ds.getD j Aj).kind=3∨(ds.getD j Aj).kind=4)/\0<=m.idx/\m.idx<(Fh ds (ds.getD j Aj):Nat)/\m∈EB ds (ds.getD j Aj):=by
 have _:=h
 obtain⟨d,hd,hb⟩:=jV.1 hm
 obtain⟨j,hj,rfl⟩:=I7 Aj hd
 have e:=lL hb
 have hk:=(X9 hm).2
 rw [e] at hk
 obtain⟨i,hi,rfl⟩:=I7 FO hb
 grind [aB8,Fh]
theorem BN.card {m:Mb} (hm:m∈AY ds ds):2<=m.d.n/\m.d.n<=4:=by
 obtain⟨j,hj,e,hk,_⟩:=h.member hm
 rw [e]
 exact ND (h.one hj) hk
theorem BN.aFl {d:De} (hd:d∈ds):LH ds d.Ae<=6:=by
 obtain⟨j,hj,rfl⟩:=I7 Aj hd
 by_cases hp:(ds.getD j Aj).Ae=[]
 ·have key:∀ (l:List De),(∀ d∈l,d.kind=2->d.name ≠ [])->LH l []=0:=by
   intro l
   induction l with
   | nil=>intro _;rfl
   | cons x l ih=>
    intro hl
    rw [LH,qG (fun e=>hl x (kC ..) e.1 e.2)]
    simp_all
  rw [hp,key ds fun d hd hk=>by
   obtain⟨i,hi,rfl⟩:=I7 Aj hd
   exact(h.ok hi).name (.inl hk)]
  decide
 ·by_cases h3:(ds.getD j Aj).kind=3
  ·obtain⟨u,_,_,hs,_,h6⟩:=h.size hj h3 hp
   rw [hs];exact h6
  ·exact absurd ((h.ok hj).Ae h3) hp
theorem BN.aJS {k:Nat} (hk:k<ds.length):bW (ds.take k) (ds.getD k Aj)=(EB ds (ds.getD k Aj)).length:=by
 unfold bW
 by_cases h3:(ds.getD k Aj).kind=3
 ·rw [qM h3]
  by_cases hp:(ds.getD k Aj).Ae=[]
  ·rw [qM hp,<- Fh,IK (.inl h3) hp]
  ·rw [qG hp,<- Fh,I9 (.inl h3) hp]
   obtain⟨u,hu,O6,hs,_⟩:=h.size hk h3 hp
   rw [hs,DL,hu]
   simp_all
 ·rw [qG h3]
  by_cases h4:(ds.getD k Aj).kind=4
  ·rw [qM h4,<- Fh,IK (.inr h4) ((h.ok hk).Ae h3)]
  ·rw [qG h4,EB,qG ME];rfl
theorem BN.nodes:∀ n k,n+k=ds.length->Ao (ds.take k) (ds.drop k)=(AY ds (ds.drop k)).length/\BG (ds.take k) (ds.drop k)=((AY ds (ds.drop k)).map fun m=>m.d.n.toNat).foldr (· * ·) 1:=by
 intro n
 induction n with
 | zero=>
  intro k hk
  rw [qb ME]
  trivial
 | succ n ih=>
  intro k hk
  obtain⟨i1,i2⟩:=ih (k+1) ME
  have Vr:k<ds.length:=by omega
  rw [AU Aj Vr] at i1 i2
  rw [EO Aj Vr,Ao,BG,i1,i2,h.aJS Vr,eD,qD,qX,List.foldr_append]
  refine⟨rfl,?_⟩
  have key:∀ (B:List Mb) (x:Nat),(∀ m∈B,m.d=ds.getD k Aj)->(B.map fun m=>m.d.n.toNat).foldr (· * ·) x=(ds.getD k Aj).n.toNat ^ B.length * x:=by
   intro B
   induction B with
   | nil=>intro x _;simp
   | cons m B ihB=>
    grind
  grind [lL]
theorem BN.eight:1<=(AY ds ds).length/\(AY ds ds).length<=8:=by
 have hb:=aFu (L8 h.clean).2.2
 have:=(h.nodes ds.length 0 rfl).1
 simp_all
theorem BN.aMW:((AY ds ds).map fun m=>m.d.n.toNat).foldr (· * ·) 1<=1024:=by
 have hb:=aFu (L8 h.clean).2.2
 have:=(h.nodes ds.length 0 rfl).2
 simp_all
theorem BN.len:2<=ds.length/\ds.length<=30:=by
 have h1:=(QX h.valid).1
 have h8:=h.eight.1
 refine⟨?_,h1⟩
 have hh:=(L8 h.clean).1
 match ds,hh,h8 with
 | [],hh,h8=>cases hh
 | [d],hh,h8=>
  unfold Fe at hh
  simp only [] at hh
  split at hh
  ·rename_i hk
   rw [AY,xe,List.flatMap_nil,qU,EB,qG ME] at h8
   simp at h8
  ·cases hh
 | a::b::r,_,_=>simp
end
end Go.Proofs.YtkegmchjobphdaaGreatDoor
namespace Go.Proofs.YtkegmchjobphdaaGreatDoor
open Go Y
set_option maxRecDepth 100000
set_option maxHeartbeats 4000000
section
variable (card:Nat->Nat)
def FE:List Nat->List Int->List (List Int)
 | [],v=>[v]
 | x::r,v=>(List.range (card x)).flatMap fun c=>FE r (v.set x (c:Nat))
def stepG:List Nat->List Int->Bool × List Int
 | [],v=>(false,v)
 | x::r,v=>match stepG r v with
  | (true,u)=>(true,u)
  | (false,u)=>if u.getD x 0+1<(card x:Nat) then(true,u.set x (u.getD x 0+1)) else(false,u.set x 0)
end
theorem QV (l:List Mb) (cs:List Cs) (idx:Int):∀ (nodes:List Nat) (v:List Int),DU l cs idx nodes v=(FE (fun i=>((l.getD i FO).d.n).toNat) nodes v).map (F8 l cs idx)
 | [],v=>rfl
 | x::r,v=>by
  rw [DU,FE,List.map_flatMap]
  congr 1
  funext c
  exact QV l cs idx r _
def RX (s:List Int->Bool × List Int) (e:Bool × List Int):List (List Int)->Prop
 | []=>True
 | [a]=>s a=e
 | a::b::r=>s a=(true,b)/\RX s e (b::r)
theorem wY {s:List Int->Bool × List Int} {e:Bool × List Int}:∀ {A B:List (List Int)} {b:List Int},RX s (true,b) A->RX s e (b::B)->RX s e (A++b::B)
 | [],_,_,_,h=>h
 | [_],_,_,h,k=>⟨h,k⟩
 | _::c::r,_,_,h,k=>⟨h.1,wY (A:=c::r) h.2 k⟩
theorem wZ {s t:List Int->Bool × List Int} {e e':Bool × List Int} (h1:∀ a b,s a=(true,b)->t a=(true,b)) (h2:∀ a,s a=e->t a=e'):∀ {A:List (List Int)},RX s e A->RX t e' A
 | [],_=>trivial
 | [a],h=>h2 a h
 | a::b::r,h=>⟨h1 a b h.1,wZ h1 h2 (A:=b::r) h.2⟩
theorem VN (card:Nat->Nat):∀ (nodes:List Nat) (v:List Int),(∀ x∈nodes,1<=card x/\x<v.length/\v.getD x 0=0)->∃ B,FE card nodes v=v::B
 | [],v,_=>⟨[],rfl⟩
 | x::r,v,h=>by
  obtain⟨hc,hx,hz⟩:=h x (kC ..)
  have hv:v.set x ((0:Nat):Int)=v:=by
   apply kU
   intro i
   rw [jg]
   by_cases e:x=i
   ·simp_all
   ·rw [qG e]
  obtain⟨B,hB⟩:=VN card r v fun y hy=>h y (qh _ hy)
  obtain⟨m,hm⟩:∃ m,card x=m+1:=⟨card x - 1,by omega⟩
  rw [FE,hm,vv,xe,hv,hB]
  simp_all
theorem aKM {v:List Int} {x:Nat} {c:Int} (h:x<v.length):(v.set x c).getD x 0=c:=by
 simp_all
theorem aHT {v:List Int} {x:Nat} (hx:x<v.length) (hz:v.getD x 0=0):v.set x 0=v:=by
 apply kU
 grind
theorem iH (card:Nat->Nat):∀ (nodes:List Nat) (v:List Int),nodes.Nodup->(∀ x∈nodes,1<=card x/\x<v.length/\v.getD x 0=0)->RX (stepG card nodes) (false,v) (FE card nodes v)
 | [],v,_,_=>rfl
 | x::r,v,hn,h=>by
  obtain⟨hc,hx,hz⟩:=h x (kC ..)
  rw [zA] at hn
  have hr:∀ (c:Int),∀ y∈r,1<=card y/\y<(v.set x c).length/\(v.set x c).getD y 0=0:=fun c y hy=>by
   grind
  have blk:∀ (c:Nat) (e:Bool × List Int),(if ((c:Nat):Int)+1<(card x:Nat) then(true,v.set x (((c+1:Nat)):Int)) else(false,v))=e->RX (stepG card (x::r)) e (FE card r (v.set x (c:Nat))):=by
   intro c e he
   refine wZ (s:=stepG card r) (e:=(false,v.set x (c:Nat))) (fun a b hab=>?_) (fun a ha=>?_) (iH card r _ hn.2 (hr _))
   ·rw [stepG,hab]
   ·rw [stepG,ha]
    simp only [aKM hx,List.set_set]
    rw [<- he]
    split
    ·rfl
    ·rw [aHT hx hz]
  have go:∀ (m c:Nat),c+m=card x->1<=m->RX (stepG card (x::r)) (false,v) ((List.range' c m).flatMap fun c=>FE card r (v.set x (c:Nat))):=by
   intro m
   induction m with
   | zero=>omega
   | succ m ih=>
    intro c hcm _
    rw [jw,xe]
    by_cases hm:m=0
    ·grind
    ·obtain⟨B,hB⟩:=VN card r (v.set x ((c+1:Nat):Int)) (hr _)
     have ih:=ih (c+1) MBc ME
     obtain⟨k,rfl⟩:∃ k,m=k+1:=⟨m - 1,by omega⟩
     rw [jw,xe,hB] at ih ⊢
     rw [kD] at ih ⊢
     exact wY (blk c _ MHl) ih
  rw [FE,vG]
  simp_all
theorem aCo {s:List Int->Bool × List Int} {e:Bool × List Int}:∀ {A:List (List Int)},RX s e A->∀ k,k<A.length->s (A.getD k [])=if k+1<A.length then(true,A.getD (k+1) []) else e
 | [],_,k,hk=>by cases hk
 | [a],h,k,hk=>by
  obtain rfl:k=0:=by simpa using hk
  trivial
 | a::b::r,h,k,hk=>by
  cases k with
  | zero=>rw [qM MBV];exact h.1
  | succ k=>
   have ih:=aCo (A:=b::r) h.2 k MEW
   simp_all
end Go.Proofs.YtkegmchjobphdaaGreatDoor
namespace Go.Proofs.YtkegmchjobphdaaGreatDoor
open Go Y
set_option maxRecDepth 100000
set_option maxHeartbeats 4000000
def aLi (fd:Fd) (vals:List Int) (op n rel val:Int) (st:List Int):Bool:=match fd with
 | .none=>false
 | .one i=>if op=5 then st.any fun x=>decide (x=vals.getD i 0) else Wl op (vals.getD i 0) n
 | .many l=>Wl rel ((l.filter fun i=>decide (vals.getD i 0=val)).length:Nat) n
theorem aDp {l:List Mb} {idx:Int} {vals:List Int} {op n rel val:Int} {r:Rf} {st:List Int} {fd:Fd} (h:FP l r idx=fd.list) (h6:op=6 ↔ ∃ k,fd=.many k):RB l idx vals op n rel val r st=aLi fd vals op n rel val st:=by
 unfold RB
 rw [h]
 cases fd with
 | none=>
  rw [qG (fun e=>MAe)];rfl
 | one i=>
  rw [qG (fun e=>MAe)];rfl
 | many k=>rw [qM (h6.2 ⟨k,rfl⟩)];rfl
theorem aDq {base size:Nat} {r:Rf} {idx:Int} (_:r.mode=0∨r.mode=1∨r.mode=2∨r.mode=3):(∃ k,Eh base size r idx=.many k) ↔ r.mode=3:=by
 unfold Eh
 constructor
 ·grind
 simp_all
theorem rY {l:List Mb} {idx:Int} {v u:List Int} (h:∀ i,i<l.length->v.getD i 0=u.getD i 0) (op n rel val:Int) (r:Rf) (st:List Int):RB l idx v op n rel val r st=RB l idx u op n rel val r st:=by
 have hN:∀ i∈FP l r idx,i<l.length:=fun i hi=>(JA.1 hi).1
 unfold RB
 have e1:(FP l r idx).filter (fun i=>decide (v.getD i 0=val))=(FP l r idx).filter fun i=>decide (u.getD i 0=val):=vY fun i hi=>MAe
 rw [e1]
 split
 ·rfl
 ·cases hq:FP l r idx with
  | nil=>rfl
  | cons i k=>
   simp_all
mutual
theorem Si {l:List Mb} {idx:Int} {v u:List Int} (h:∀ i,i<l.length->v.getD i 0=u.getD i 0):∀ c:Cd,BM l idx v c=BM l idx u c
 | .mk op n rel val r st ar=>by rw [BM,BM,RD h ar,rY h]
theorem RD {l:List Mb} {idx:Int} {v u:List Int} (h:∀ i,i<l.length->v.getD i 0=u.getD i 0):∀ c:List Cd,Df l idx v c=Df l idx u c
 | []=>rfl
 | c::r=>by rw [Df,Df,Si h c,RD h r]
end
theorem rZ {l:List Mb} {cs:List Cs} {idx:Int} {v u:List Int} (h:∀ i,i<l.length->v.getD i 0=u.getD i 0):F8 l cs idx v=F8 l cs idx u:=by
 have:(fun c:Cs=>BM l idx v c.cond)=fun c:Cs=>BM l idx u c.cond:=funext fun c=>Si h c.cond
 grind [F8]
theorem aQL {v:List Int} {x i:Nat} {c:Int}:(v.set x c).getD i 0=if x=i/\x<v.length then c else v.getD i 0:=by
 grind
theorem Vs {l:List Mb} {cs:List Cs} {idx:Int}:∀ {nodes:List Nat} {v u:List Int},(∀ i,i<l.length->v.getD i 0=u.getD i 0)->(∀ x∈nodes,x<v.length/\x<u.length)->DU l cs idx nodes v=DU l cs idx nodes u
 | [],v,u,h,_=>by rw [DU,DU,rZ h]
 | x::r,v,u,h,hn=>by
  rw [DU,DU]
  congr 1
  funext c
  obtain⟨h1,h2⟩:=hn x (kC ..)
  refine Vs (fun i hi=>?_) fun y hy=>?_
  ·grind
  simp_all
theorem aB7 (n i:Nat):(DV n).getD i 0=0:=by
 rw [DV,qK,List.getElem?_replicate]
 split <;> rfl
theorem Re {l:List Mb} {cs:List Cs} {idx:Int} {nodes:List Nat} {n m:Nat} (h:∀ x∈nodes,x<n/\x<m):DU l cs idx nodes (DV n)=DU l cs idx nodes (DV m):=
 Vs (fun i _=>by rw [aB7,aB7]) fun x hx=>by grind [DV]
theorem rq {card:Nat->Nat}:∀ {nodes:List Nat} {v w:List Int},w∈FE card nodes v->w.length=v.length/\(∀ i,i ∉ nodes->w.getD i 0=v.getD i 0)/\∀ i∈nodes,i<v.length->∃ c:Nat,c<card i/\w.getD i 0=c
 | [],v,w,h=>by
  rw [FE,qP] at h
  simp_all
 | x::r,v,w,h=>by
  rw [FE,jV] at h
  obtain⟨c,hc,h⟩:=h
  have hc:=xP.1 hc
  obtain⟨h1,h2,h3⟩:=rq h
  grind
end Go.Proofs.YtkegmchjobphdaaGreatDoor
namespace Go.Proofs.YtkegmchjobphdaaGreatDoor
open Go Y
set_option maxRecDepth 100000
set_option maxHeartbeats 4000000
theorem aLh {n:Nat} (h:n<18446744073709551616):(n:Int)=IntKind.u64.wrap (n:Int):=by
 exact MGM
theorem bvG {n:Nat} (h:n<18446744073709551616):(BitVec.ofInt 64 (n:Int)).toNat=n:=by
 simp_all
theorem orG {a b:Nat} (ha:a<18446744073709551616) (hb:b<18446744073709551616):((a ||| b:Nat):Int)=IntKind.u64.wrap (((BitVec.ofInt 64 (a:Int) ||| BitVec.ofInt 64 (b:Int)).toNat:Nat):Int):=by
 grind [bvG,aLh]
theorem aOH {k:Nat} (hk:k<64):((2 ^ k:Nat):Int)=IntKind.u64.wrap (1 * 2 ^ (min ((k:Int)).toNat 64)):=by
 rw [kL,xG ME,ze]
 have:(2:Nat) ^ k<2 ^ 64:=jE ML hk
 grind [aLh]
theorem aOI {k:Nat} (hk:k<64):2 ^ k<18446744073709551616:=jE (a:=2) ML hk
theorem X6:∀ (a b:List Mb) (i:Nat),Ho (a++b) i=Ho a i+Ho b (i+a.length)
 | [],b,i=>by grind [Ho]
 | m::a,b,i=>by
  rw [kD,Ho,Ho,X6 a b (i+1),qR,show i+(a.length+1)=i+1+a.length by omega];exact(zN ..).symm
theorem aB6:∀ (a:List Mb) (i:Nat),Ho a i+2 ^ i<=2 ^ (i+a.length)
 | [],i=>by grind [Ho]
 | m::a,i=>by
  have h:=aB6 a (i+1)
  have e:2 ^ (i+1)=2 ^ i * 2:=jb ..
  rw [Ho,qR,show i+(a.length+1)=i+1+a.length by omega]
  split <;> omega
theorem dZ (l:List Mb) {k:Nat} (hk:k<l.length):Ho (l.take (k+1)) 0=Ho (l.take k) 0+(if (l.getD k FO).d.kind=4 then 2 ^ k else 0):=by
 grind [AU,X6,Ho]
theorem XN (l:List Mb) {k:Nat} (hk:k<=l.length):Ho (l.take k) 0<2 ^ k:=by
 grind [aB6]
theorem aAW {a k:Nat} (h:a<2 ^ k):a ||| 2 ^ k=a+2 ^ k:=by
 have:=Nat.two_pow_add_eq_or_of_lt (i:=k) (b:=a) h 1
 grind
section
variable {ds:List De} (h:BN ds)
include h
theorem BN.aQK {j:Nat} (hj:j<ds.length):(ds.getD j Aj).refs.length<=8/\∀ r∈(ds.getD j Aj).refs,-100000<=r.n/\r.n<=100000:=by
 have hd:=h.Bg hj
 simp only [Go.Proofs.YtkegmchjobphdaaGreatDoor.Bg,qC,qJ] at hd
 refine⟨hd.1.1.2,fun r hr=>?_⟩
 obtain⟨k,_,_,_,_,h0,_,_,_,_,h9⟩:=h.ref hj hr
 omega
theorem BN.Sd {d:De} (hd:d∈ds):d.name.length<=10:=by
 obtain⟨j,hj,rfl⟩:=I7 Aj hd
 have hd:=h.Bg hj
 simp only [Go.Proofs.YtkegmchjobphdaaGreatDoor.Bg,qC] at hd
 have h2:=hd.2
 unfold BP at h2
 split at h2
 ·simp_all
 ·split at h2
  ·exact MKg
  ·split at h2
   ·exact MKg
   ·split at h2
    ·exact MKg
    simp_all
end
theorem NB (l:List Mb) (idx:Int) (vals:List Int) (n rel val:Int) (r:Rf) (st:List Int):BM l idx vals (.mk 0 n rel val r st [])=true:=by rfl
theorem aDo {l:List Mb} {cs:List Cs} {idx:Int} {vals:List Int} (h:∃ c∈cs,BM l idx vals c.cond=true):∃ c∈cs,F8 l cs idx vals=c.Ah/\BM l idx vals c.cond=true:=by
 unfold F8
 grind
theorem BN.Ah {ds:List De} (h:BN ds) {j:Nat} (hj:j<ds.length) (hk:(ds.getD j Aj).kind=3∨(ds.getD j Aj).kind=5) (l:List Mb) (idx:Int) (vals:List Int):∃ c∈(ds.getD j Aj).cases,F8 l (ds.getD j Aj).cases idx vals=c.Ah/\BM l idx vals c.cond=true:=by
 obtain⟨c,hc,n,rel,val,r,st,e⟩:=h.last hj hk
 exact aDo MIc
theorem BN.rows {ds:List De} (h:BN ds) {j:Nat} (hj:j<ds.length) (hk:(ds.getD j Aj).kind=3∨(ds.getD j Aj).kind=5) {l:List Mb} {idx:Int} {nodes:List Nat} {vals:List Int} {r:List Int} (hr:r∈DU l (ds.getD j Aj).cases idx nodes vals):∃ c∈(ds.getD j Aj).cases,r=c.Ah:=by
 rw [QV,qz] at hr
 obtain⟨v,_,rfl⟩:=hr
 obtain⟨c,hc,e,_⟩:=h.Ah hj hk l idx v
 grind
end Go.Proofs.YtkegmchjobphdaaGreatDoor
namespace Go.Proofs.YtkegmchjobphdaaGreatDoor
open Go Y
set_option maxRecDepth 100000
set_option maxHeartbeats 4000000
section
variable {p:List De} {m:De} (hp:BN p) (hq:BN (p++[m]))
include hp hq
end
end Go.Proofs.YtkegmchjobphdaaGreatDoor
namespace Go.Proofs.YtkegmchjobphdaaGreatDoor
open Go Y
set_option maxRecDepth 100000
set_option maxHeartbeats 4000000
theorem X4 {f:UInt8->Bool}:∀ {t:List UInt8},CY f t=t.length->∀ b∈t,f b=true
 | [],_,b,hb=>by cases hb
 | a::t,h,b,hb=>by
  rw [CY] at h
  split at h
  ·rename_i ha
   rcases qw.1 hb with rfl | hb
   ·exact ha
   ·exact X4 (by simpa using h) b hb
  ·simp at h
theorem dw {t:List UInt8} (h:Bb t=true):(91:UInt8) ∉ t:=by
 intro hm
 simp only [Bb,qC,qJ] at h
 have:=X4 h.1.2 91 hm
 revert this;decide
theorem aJP {a b x y:List UInt8} (ha:(91:UInt8) ∉ a) (hb:(91:UInt8) ∉ b) (h:a++91::x=b++91::y):a=b/\x=y:=by
 induction a generalizing b with
 | nil=>
  cases b with
  | nil=>rw [kg,kg] at h;exact⟨rfl,(zQ h).2⟩
  | cons c b=>
   rw [kg,kD] at h
   exact absurd (by rw [<- (zQ h).1];exact kC ..) hb
 | cons c a ih=>
  cases b with
  | nil=>
   rw [kg,kD] at h
   exact absurd (by rw [(zQ h).1];exact kC ..) ha
  | cons e b=>
   rw [kD,kD] at h
   obtain⟨h1,h2⟩:=zQ h
   obtain⟨h3,h4⟩:=ih (fun m=>ha (qh _ m)) (fun m=>hb (qh _ m)) h2
   exact⟨by rw [h1,h3],h4⟩
theorem aDm:∀ i,i<10->∀ j,j<10->L9 i=L9 j->i=j:=ML
theorem aFk {i j:Nat} (hi:i<10) (hj:j<10) (h:L9 i=L9 j):i=j:=aDm i hi j hj h
theorem SY (d:De) (k:Nat):Sb d k=d.name++91::(L9 k++[93]):=by
 rw [Sb];simp
section
variable {ds:List De} (h:BN ds)
include h
theorem BN.Bb {k:Nat} (hk:k<ds.length) (h3:(ds.getD k Aj).kind=3∨(ds.getD k Aj).kind=4):Go.Proofs.YtkegmchjobphdaaGreatDoor.Bb (ds.getD k Aj).name=true:=by
 have hd:=h.Bg hk
 simp only [Go.Proofs.YtkegmchjobphdaaGreatDoor.Bg,qC] at hd
 have h2:=hd.2
 unfold BP at h2
 rw [qG MBc,qG ME] at h2
 split at h2
 ·simp only [qC] at h2;exact h2.1.1
 ·rw [qM ME] at h2
  simp only [qC] at h2;exact h2.1.1
theorem BN.aJQ {k:Nat} (hk:k<ds.length) (h3:(ds.getD k Aj).kind=3∨(ds.getD k Aj).kind=4):Fh ds (ds.getD k Aj)<=6:=by
 by_cases hp:(ds.getD k Aj).Ae=[]
 ·rw [IK h3 hp];decide
 ·rw [I9 h3 hp]
  have:=h.aFl (Aa Aj hk)
  omega
structure AtG (ds:List De) (i k:Nat) (j:Nat):Prop where
 lt:k<ds.length
 kind:(ds.getD k Aj).kind=3∨(ds.getD k Aj).kind=4
 d:((AY ds ds).getD i FO).d=ds.getD k Aj
 idx:((AY ds ds).getD i FO).idx=(j:Nat)
 jl:j<Fh ds (ds.getD k Aj)
 name:((AY ds ds).getD i FO).name=if (ds.getD k Aj).Ae=[] then(ds.getD k Aj).name else Sb (ds.getD k Aj) j
theorem BN.at {i:Nat} (hi:i<(AY ds ds).length):∃ k j,AtG ds i k j:=by
 have hm:=Aa FO hi
 obtain⟨k,hk,e,h3,h0,h1,hb⟩:=h.member hm
 obtain⟨j,hj⟩:∃ j:Nat,((AY ds ds).getD i FO).idx=j:=⟨_,(Int.toNat_of_nonneg h0).symm⟩
 refine⟨k,j,hk,h3,e,hj,by rw [hj] at h1;omega,?_⟩
 unfold EB at hb
 rw [qM h3] at hb
 split at hb
 ·rename_i hp
  rw [qM hp,qP.1 hb]
 ·rename_i hp
  obtain⟨q,_,hq⟩:=qz.1 hb
  rw [<- hq] at hj
  have hj:((q:Nat):Int)=(j:Nat):=hj
  obtain rfl:q=j:=by omega
  rw [qG hp,<- hq]
theorem BN.aMX {i i' k j:Nat} (hi:i<(AY ds ds).length) (hi':i'<(AY ds ds).length) (a:AtG ds i k j) (b:AtG ds i' k j):i=i':=by
 obtain⟨r,hr⟩:∃ r:Rf,r=⟨(ds.getD k Aj).name,2,[],(j:Nat)⟩:=MX
 have hf:=OB h.bT a.lt a.kind (r:=r) (by rw [hr]) 0 ML (by rw [hr];exact kV _) (.inr (.inr (.inl (by rw [hr])))) (fun e=>by rw [hr] at e;cases e) (fun _=>by rw [hr];have:=a.jl;show(j:Int)<_;omega)
 have bV:∀ {q:Nat},q<(AY ds ds).length->AtG ds q k j->q∈FP (AY ds ds) r 0:=fun {q} hq c=>JA.2 ⟨hq,by
  rw [pz,c.d,c.idx,hr,qE rfl,xJ,qM rfl];exact qE rfl⟩
 have h1:=bV hi a
 have h2:=bV hi' b
 rw [hf,hr] at h1 h2
 have h1:=qP.1 h1
 have h2:=qP.1 h2
 rw [h1,h2]
theorem BN.X5 {k k':Nat} (hk:k<ds.length) (Vr:k'<ds.length) (h3:(ds.getD k Aj).kind=3∨(ds.getD k Aj).kind=4) (SK:(ds.getD k' Aj).kind=3∨(ds.getD k' Aj).kind=4) (e:(ds.getD k Aj).name=(ds.getD k' Aj).name):k=k':=by
 rcases Nat.lt_trichotomy k k' with hl | hl | hl
 ·exact absurd e (h.bT k' Vr (.inr SK) k hl)
 ·exact hl
 ·exact absurd e.symm (h.bT k hk (.inr h3) k' hl)
theorem BN.aDk {i i':Nat} (hi:i<(AY ds ds).length) (hi':i'<(AY ds ds).length) (e:((AY ds ds).getD i FO).name=((AY ds ds).getD i' FO).name):i=i':=by
 obtain⟨k,j,a⟩:=h.at hi
 obtain⟨k',j',b⟩:=h.at hi'
 rw [a.name,b.name] at e
 have n1:=dw (h.Bb a.lt a.kind)
 have n2:=dw (h.Bb b.lt b.kind)
 have l1:=h.aJQ a.lt a.kind
 have l2:=h.aJQ b.lt b.kind
 have j1:=a.jl
 have j2:=b.jl
 have key:k=k'/\j=j':=by
  by_cases p1:(ds.getD k Aj).Ae=[]
  ·by_cases p2:(ds.getD k' Aj).Ae=[]
   ·rw [qM p1,qM p2] at e
    rw [IK a.kind p1] at j1
    rw [IK b.kind p2] at j2
    exact⟨h.X5 a.lt b.lt a.kind b.kind e,by omega⟩
   ·rw [qM p1,qG p2,SY] at e
    exact absurd (by rw [e];exact zB _ (kC ..)) n1
  ·by_cases p2:(ds.getD k' Aj).Ae=[]
   ·rw [qG p1,qM p2,SY] at e
    exact absurd (by rw [<- e];exact zB _ (kC ..)) n2
   ·rw [qG p1,qG p2,SY,SY] at e
    obtain⟨e1,e2⟩:=aJP n1 n2 e
    exact⟨h.X5 a.lt b.lt a.kind b.kind e1,aFk MBc ME (List.append_cancel_right e2)⟩
 obtain⟨rfl,rfl⟩:=key
 exact h.aMX hi hi' a b
theorem BN.KV:∃ R:Nat->Nat,∀ v,v<(AY ds ds).length->∀ i∈Dn (AY ds ds) ((AY ds ds).getD v FO).d.refs ((AY ds ds).getD v FO).idx,R i<R v:=by
 have ha:∀ i,∃ q:Nat × Nat,i<(AY ds ds).length->AtG ds i q.1 q.2:=fun i=>by
  by_cases hi:i<(AY ds ds).length
  ·obtain⟨k,j,a⟩:=h.at hi
   exact⟨(k,j),fun _=>a⟩
  ·exact⟨(0,0),fun x=>absurd x hi⟩
 obtain⟨Q,hQ⟩:∃ Q:Nat->Nat × Nat,∀ i,i<(AY ds ds).length->AtG ds i (Q i).1 (Q i).2:=⟨fun i=>Classical.choose (ha i),fun i=>Classical.choose_spec (ha i)⟩
 refine⟨fun i=>(Q i).1 * 16+(8 - (Q i).2),fun v hv i hi=>?_⟩
 have hil:=IJ i hi
 have a:=hQ v hv
 have b:=hQ i hil
 show(Q i).1 * 16+(8 - (Q i).2)<(Q v).1 * 16+(8 - (Q v).2)
 obtain⟨r,hr,bV⟩:=XP.1 hi
 rw [a.d] at hr
 rw [a.idx] at bV
 obtain⟨k,k1,k2,k3,_,_,_,_,_,k9,_⟩:=h.ref a.lt hr
 have hG:=(JA.1 bV).2
 rw [pz,b.d,b.idx] at hG
 simp only [qC,qJ] at hG
 have hk:(Q i).1=k:=h.X5 b.lt (by have:=a.lt;omega) b.kind k2 (by rw [hG.1,k3])
 have l1:=h.aJQ b.lt b.kind
 have l2:=b.jl
 have l3:=h.aJQ a.lt a.kind
 have l4:=a.jl
 by_cases e:k=(Q v).1
 ·obtain⟨m1,m2,_⟩:=k9 e
  have:=hG.2
  rw [qG ME,qM m1,qJ] at this
  omega
 ·omega
end
end Go.Proofs.YtkegmchjobphdaaGreatDoor
namespace Go.Proofs.YtkegmchjobphdaaGreatDoor
open Go Y
set_option maxRecDepth 100000
set_option maxHeartbeats 4000000
abbrev Gh (l:List Int):PV:=.Dh (l.map i64)
abbrev u64 (n:Nat):PV:=.int .u64 (n:Int)
abbrev wh (l:List Nat):PV:=.Dh (l.map u64)
theorem nM {l:List Int} {k:Nat} (h:k<l.length):(l.map i64)[k]?=some (i64 (l.getD k 0)):=by
 exact MLJ
theorem aND {l:List (List Int)} {k:Nat} (h:k<l.length):(l.map Gh)[k]?=some (Gh (l.getD k [])):=by
 exact MLJ
theorem aHY {l:List Nat} {k:Nat} (h:k<l.length):(l.map u64)[k]?=some (u64 (l.getD k 0)):=by
 exact MLJ
theorem aCq {α β:Type} {f:α->β} {l:List α} {k:Nat} (d:α) (h:k<l.length):(l.map f)[k]?=some (f (l.getD k d)):=by
 exact MLJ
theorem aBP {α β:Type} (f:α->β) (l:List α):i64 (l.length:Nat)=i64 ((l.map f).length:Nat):=by rw [qB]
theorem FB {α:Type} {l:List α} {k:Nat} (d:α) (h:k<l.length):l.take (k+1)=l.take k++[l.getD k d]:=by
 rw [List.take_add_one,qW h,qK,qW h];rfl
theorem EK {α:Type} {l:List α} {k:Nat} (d:α) (h:k<l.length):l.getD k d∈l:=by
 rw [qK,qW h];exact vg h
theorem IA {α:Type} {l:List α} {k:Nat} (h:l.length<=k):l.take k=l:=kX h
theorem Qp {α:Type} (l:List α) (x:α):(l++[x]).length=l.length+1:=by simp
theorem getD_map {α β:Type} {f:α->β} {l:List α} {k:Nat} (d:α) (e:β) (h:k<l.length):(l.map f).getD k e=f (l.getD k d):=by
 rw [qK,aCq d h];rfl
theorem SV {α:Type} {l:List α} {x:α} (d:α) (h:x∈l):∃ k,k<l.length/\l.getD k d=x:=by
 obtain⟨k,hk,e⟩:=vN h
 exact⟨k,hk,by rw [qK,qW hk];exact e⟩
structure EU where
 card:Int
 parents:List Int
 rows:List (List Int)
deriving DecidableEq
structure SI where
 BS:Int
 nodes:List EU
deriving DecidableEq
def Ld:EU:=⟨0,[],[]⟩
abbrev EU.cells (x:EU):List PV:=[i64 x.card,Gh x.parents, .Dh (x.rows.map Gh)]
abbrev EU.pv (x:EU):PV:=.agg x.cells
abbrev SI.cells (n:SI):List PV:=[i64 n.BS, .Ai 3 (n.nodes.map EU.cells)]
abbrev SI.pv (n:SI):PV:=.agg n.cells
theorem aHZ {l:List EU} {k:Nat} (h:k<l.length):(l.map EU.cells)[k]?=some (l.getD k Ld).cells:=aCq Ld h
theorem VO {n:Nat} (h:n<18446744073709551616):(n:Int)=IntKind.u64.wrap (n:Int):=by
 exact MGM
theorem Zp {n:Nat} (h:n<18446744073709551616):(BitVec.ofInt 64 (n:Int)).toNat=n:=by
 rw [BitVec.ofInt_natCast,BitVec.toNat_ofNat]
 exact Nat.mod_eq_of_lt h
theorem u64_or {a b:Nat} (ha:a<18446744073709551616) (hb:b<18446744073709551616):(BitVec.ofInt 64 (a:Int) ||| BitVec.ofInt 64 (b:Int)).toNat=a ||| b:=by
 rw [BitVec.toNat_or,Zp ha,Zp hb]
theorem aO5 {a b:Nat} (ha:a<18446744073709551616) (hb:b<18446744073709551616):a ||| b<18446744073709551616:=zT (n:=64) ha hb
theorem aHa {a b:Nat} (ha:a<18446744073709551616) (hb:b<18446744073709551616):((a ||| b:Nat):Int)=IntKind.u64.wrap (((BitVec.ofInt 64 (a:Int) ||| BitVec.ofInt 64 (b:Int)).toNat:Nat):Int):=by
 rw [u64_or ha hb];exact VO (aO5 ha hb)
theorem Xc {s k:Nat} (hk:k<64):(s:Int).fdiv (2 ^ (min ((k:Int)).toNat 64))=((s >>> k:Nat):Int):=by
 rw [kL,xG ME,jU]
 rw [zh _ (by exact_mod_cast qL (2 ^ k))]
 norm_cast
theorem Zq {s k:Nat} (hs:s<18446744073709551616):(if s.testBit k then(1:Int) else 0)=IntKind.u64.wrap (((BitVec.ofInt 64 ((s >>> k:Nat):Int) &&& BitVec.ofInt 64 1).toNat:Nat):Int):=by
 have h1:s >>> k<18446744073709551616:=Nat.lt_of_le_of_lt (by rw [jU];exact Nat.div_le_self _ _) hs
 rw [BitVec.toNat_and,Zp h1,show(BitVec.ofInt 64 1).toNat=1 from rfl,Nat.and_one_is_mod]
 have h2:s >>> k % 2=if s.testBit k then 1 else 0:=by
  rw [jU,Nat.testBit_eq_decide_div_mod_eq]
  have:=Nat.mod_two_eq_zero_or_one (s / 2 ^ k)
  rcases this with e | e <;> simp [e]
 rw [h2]
 split <;> rfl
theorem aCr {k:Nat} (hk:k<64):((2 ^ k:Nat):Int)=IntKind.u64.wrap (1 * 2 ^ (min ((k:Int)).toNat 64)):=by
 rw [kL,xG ME,ze]
 have:(2:Nat) ^ k<2 ^ 64:=jE ML hk
 have e:((2:Int) ^ k)=((2 ^ k:Nat):Int):=by norm_cast
 rw [e]
 exact VO this
theorem Zr {k:Nat} (hk:k<64):2 ^ k<18446744073709551616:=jE (a:=2) ML hk
theorem aEp {a b:Nat} (_ha:a<18446744073709551616):(BitVec.ofInt 64 (a:Int) &&& ~~~ BitVec.ofInt 64 (b:Int)).toNat<18446744073709551616:=BitVec.isLt _
theorem WN {a b:Nat} (ha:a<18446744073709551616) (hb:b<18446744073709551616):IntKind.u64.wrap (((BitVec.ofInt 64 (a:Int) &&& ~~~ BitVec.ofInt 64 (b:Int)).toNat:Nat):Int)=0 ↔ ∀ p,a.testBit p=true->b.testBit p=true:=by
 rw [<- VO (aEp ha)]
 have e:∀ p,(BitVec.ofInt 64 (a:Int) &&& ~~~ BitVec.ofInt 64 (b:Int)).toNat.testBit p=(a.testBit p && (decide (p<64) && !b.testBit p)):=by
  intro p
  rw [zG,BitVec.getLsbD_and,BitVec.getLsbD_not,<- zG,<- zG,Zp ha,Zp hb]
 constructor
 ·intro h p hp
  have h:(BitVec.ofInt 64 (a:Int) &&& ~~~ BitVec.ofInt 64 (b:Int)).toNat=0:=by exact_mod_cast h
  have h1:=e p
  rw [h,vk,hp] at h1
  have aRH:p<64:=by
   rcases xB p 64 with h | h
   ·exact h
   ·rw [vw (xQ ha (kY (n:=2) ML h))] at hp
    cases hp
  simp [aRH] at h1
  exact h1
 ·intro h
  have:(BitVec.ofInt 64 (a:Int) &&& ~~~ BitVec.ofInt 64 (b:Int)).toNat=0:=by
   apply Nat.eq_of_testBit_eq
   intro p
   rw [e,vk]
   cases ha':a.testBit p
   ·rfl
   ·rw [h p ha'];simp
  rw [this];rfl
theorem aNE {s n p:Nat} (hs:s<2 ^ n) (h:s.testBit p=true):p<n:=by
 rcases xB p n with h1 | h1
 ·exact h1
 ·rw [vw (xQ hs (kY ML h1))] at h
  cases h
def IB:Nat->Nat->Nat
 | 0,_=>0
 | n+1,s=>IB n s+(if s.testBit n then 1 else 0)
theorem Xd:∀ n s,IB n s<=n
 | 0,_=>qN _
 | n+1,s=>by have:=Xd n s;rw [IB];split <;> omega
theorem iJ {s:Nat}:∀ {n:Nat},IB n s=n->∀ p,p<n->s.testBit p=true
 | 0,_,p,hp=>by omega
 | n+1,h,p,hp=>by
  have:=Xd n s
  rw [IB] at h
  split at h
  ·by_cases e:p=n
   ·subst e;assumption
   ·exact iJ (n:=n) MBc p ME
  ·omega
theorem aEq {s n:Nat} (h:IB n s<n):∃ v,v<n/\s.testBit v=false:=by
 induction n with
 | zero=>omega
 | succ n ih=>
  rw [IB] at h
  cases e:s.testBit n
  ·exact⟨n,by omega,e⟩
  ·rw [e] at h
   simp only [jv] at h
   obtain⟨v,h1,h2⟩:=ih ME
   exact⟨v,by omega,h2⟩
theorem aEr (n:Nat):IB n 0=0:=by
 induction n with
 | zero=>rfl
 | succ n ih=>rw [IB,ih,vk];rfl
theorem Xb (a b p:Nat):(a ||| b).testBit p=(a.testBit p || b.testBit p):=zm a b p
theorem T9 (k p:Nat):(2 ^ k).testBit p=decide (k=p):=zI
theorem aHb {s v n:Nat} (hv:v<n) (h:s.testBit v=false):IB n (s ||| 2 ^ v)=IB n s+1:=by
 have key:∀ m,(m<=v->IB m (s ||| 2 ^ v)=IB m s)/\(v<m->IB m (s ||| 2 ^ v)=IB m s+1):=by
  intro m
  induction m with
  | zero=>exact⟨fun _=>rfl,fun h=>by omega⟩
  | succ m ih=>
   refine⟨fun hm=>?_,fun hm=>?_⟩
   ·rw [IB,IB,ih.1 MBc,Xb,T9,qF ME,zP]
   ·rw [IB,IB,Xb,T9]
    by_cases e:v=m
    ·subst e
     rw [ih.1 (qN _),h]
     simp
    ·rw [ih.2 MBc,qF ME,zP]
     omega
 exact(key n).2 hv
def PR (par:List Nat) (v:Nat):Nat:=par.getD v 0
def iI (par:List Nat):Prop:=∃ KV:Nat->Nat,∀ v,v<par.length->∀ p,p<par.length->(PR par v).testBit p=true->KV p<KV v
noncomputable instance (par:List Nat):Decidable (iI par):=Classical.propDecidable _
def aHX (par:List Nat):Prop:=∀ v,v<par.length->PR par v<2 ^ par.length
def iK (par:List Nat) (d v:Nat):Prop:=d.testBit v=false/\∀ p,(PR par v).testBit p=true->d.testBit p=true
structure Srt (par:List Nat) (l:List Nat) (d:Nat):Prop where
 lt:d<2 ^ par.length
 len:l.length=IB par.length d
 mem:∀ v,d.testBit v=true ↔ v∈l
 KV:∃ KV:Nat->Nat,(∀ v∈l,KV v<l.length)/\∀ v∈l,∀ p,(PR par v).testBit p=true->p∈l/\KV p<KV v
theorem Srt.zero (par:List Nat):Srt par [] 0:=⟨Nat.pow_pos ML,by rw [aEr];rfl,fun v=>by rw [vk];simp,fun _=>0,by simp,by simp⟩
theorem Srt.next {par:List Nat} {l:List Nat} {d v:Nat} (h:Srt par l d) (hv:v<par.length) (hf:iK par d v):Srt par (l++[v]) (d ||| 2 ^ v):=by
 have BF:v ∉ l:=fun hm=>by have:=hf.1;rw [(h.mem v).2 hm] at this;cases this
 obtain⟨KV,r1,r2⟩:=h.KV
 refine⟨zT h.lt (jE ML hv),by rw [aHb hv hf.1,Qp,h.len],fun u=>?_,fun u=>if u=v then l.length else KV u,fun u hu=>?_,fun u hu p hp=>?_⟩
 ·rw [Xb,T9,kW,h.mem,decide_eq_true_iff]
  simp [eq_comm]
 ·rw [Qp]
  simp only
  split
  ·omega
  ·rename_i e
   have tT:u∈l:=by
    exact MI3
   have:=r1 u tT
   omega
 ·by_cases e:u=v
  ·subst e
   have II:p∈l:=(h.mem p).1 (hf.2 p hp)
   have ES:p ≠ u:=fun e=>by subst e;exact BF II
   refine⟨vF _ II,?_⟩
   show(if p=u then l.length else KV p)<(if u=u then l.length else KV u)
   rw [qG ES,qM rfl]
   exact r1 p II
  ·have tT:u∈l:=by
    exact MI3
   obtain⟨q1,q2⟩:=r2 u tT p hp
   have ES:p ≠ v:=fun e=>by subst e;exact BF q1
   refine⟨vF _ q1,?_⟩
   show(if p=v then l.length else KV p)<(if u=v then l.length else KV u)
   rw [qG ES,qG e]
   exact q2
theorem Srt.done {par:List Nat} {l:List Nat} {d:Nat} (h:Srt par l d) (hl:par.length<=l.length):iI par:=by
 obtain⟨KV,r1,r2⟩:=h.KV
 have hc:=Xd par.length d
 have hl2:=h.len
 refine⟨KV,fun v hv p _ hp=>(r2 v ((h.mem v).1 (iJ ME v hv)) p hp).2⟩
theorem Srt.stuck {par:List Nat} (hp:aHX par) {l:List Nat} {d:Nat} (h:Srt par l d) (hl:l.length<par.length) (hn:∀ v,v<par.length->¬ iK par d v):¬ iI par:=by
 rintro⟨KV,hr⟩
 have hl2:=h.len
 obtain⟨v,hv,hd⟩:=aEq (n:=par.length) (s:=d) ME
 have key:∀ r v,v<par.length->d.testBit v=false->KV v=r->False:=by
  intro r
  induction r using Nat.strongRecOn with
  | _ r ih=>
   intro v hv hd e
   have:=hn v hv
   have Lv:∃ p,(PR par v).testBit p=true/\d.testBit p=false:=by
    apply Classical.byContradiction
    intro hx
    refine this ⟨hd,fun p hp=>?_⟩
    cases e:d.testBit p
    ·exact(hx ⟨p,hp,e⟩).elim
    ·rfl
   obtain⟨p,h1,h2⟩:=Lv
   have II:=aNE (hp v hv) h1
   exact ih (KV p) (by have:=hr v hv p II h1;omega) p II h2 rfl
 exact key _ v hv hd rfl
end Go.Proofs.YtkegmchjobphdaaGreatDoor
