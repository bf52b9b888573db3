/- Part 12 of the proof: Nw Za Zb Aa Ab Mz -/
import Derived.ChangeArms
import Derived.OpenShut
import Derived.WideHanded
import Derived.ChangeSame
import Derived.ProofKit
import Derived.LaidMore
import Derived.LaidLaws
import Derived.Stop.Joined
import Derived.MakeChecks
import Derived.Test.YtkegmchjobphdaaGreatDoorRows
import Derived.Lay
import Derived.Test.YtkegmchjobphdaaGreatDoorQ11
namespace Go.Proofs.YtkegmchjobphdaaGreatDoor
open Go Y
set_option maxRecDepth 100000
set_option maxHeartbeats 40000000
theorem bQ (d:Dp) (n:UInt8) (hd:d.ok):Pure cx 8 [.agg d.cells,u8 n] (·=.ret [.bool true]):=by
 refine pure_of_vc Tryz.func8 rfl rfl rfl ?_
 refine QR.eq rfl ?_
 refine(N8 _ hd).at fun r hr=>?_
 obtain⟨p,rfl,hp,Lv,bR,hk⟩:=hr
 have hP:=aDg p hp.big ME
 have hq:=rJ hp.big bR hk
 generalize KS p.length p=q at hP hq
 have hC:=aDh n.toNat n.toNat_lt q (by have:=hq.len;omega)
 have hu0:=hq.chain n.toNat_lt
 have hup:=rM hq.plain n.toNat
 have hub:=aDi hq.big (by have:=hq.len;omega) n.toNat
 generalize Hm n.toNat q=u at hC hu0 hup hub
 refine hP.eq rfl ?_
 refine hC.eq rfl ?_
 have hM:=Jo u hub
 rcases hu0 with h0 | h0
 ·have h1:=(EY h0).eight
  rw [L6,qM h0] at hM
  have BF:(Ap u).names.length=(AY u u).length:=qB ..
  rw [<- BF] at h1
  generalize hgu:Ap u=gu at hM h1
  clear BF
  obtain⟨g1,g2,g3,g4,g5⟩:=gu
  have h1:1<=g1.length/\g1.length<=8:=h1
  refine hM.eq rfl ?_
  refine And.intro (fun h=>absurd (show(0:Int)=390 from h) ML) (fun _=>?_)
  refine MJ ?_
  refine And.intro (fun h=>absurd (show(((g1.map PV.str).length:Nat):Int)=0 from h) MAI) (fun _=>?_)
  clear hM h1 hgu
  have hw0:=h0
  have hwp:=hup
  have hwb:=hub
  have hN:=aFZ u hwb
  rw [aJN,qM hw0,qM hwp,(EY hw0).dX hwp] at hN
  have hK:=Xv (SS u) (EY hw0).aOE
  exact MCY
 ·rw [L6,qG (by rw [h0];decide),h0] at hM
  refine hM.eq rfl ?_
  refine MJ ?_
  refine hP.eq rfl ?_
  have hw0:=hq.aOF
  have hwp:=hq.plain
  have hwb:=hq.big
  have hN:=aFZ q hwb
  rw [aJN,qM hw0,qM hwp,(EY hw0).dX hwp] at hN
  have hK:=Xv (SS q) (EY hw0).aOE
  exact MCY
end Go.Proofs.YtkegmchjobphdaaGreatDoor
namespace Go.Proofs.YtkegmchjobphdaaGreatDoor.Y
open Go
def partsOf (P:Program) (t:TypeId):Option (List (TypeId × Nat)):=
 match P.underlying t with
 | some (.struct fs)=>some (fs.toList.map fun f=>(f.type,f.offset))
 | some (.array k e)=>some ((List.range k).map fun i=>(e,i * P.cellsOf e))
 | _=>none
def QQ (P:Program):List (TypeId × Nat)->Nat->Option Nat
 | [],o=>some o
 | f::r,o=>if f.2=o then QQ P r (o+P.cellsOf f.1) else none
theorem aAQ {P:Program}:∀ {l:List (TypeId × Nat)} {o n:Nat},QQ P l o=some n->o<=n
 | [],o,n,h=>by simp only [QQ,qo] at h;omega
 | f::r,o,n,h=>by
  simp only [QQ] at h
  split at h
  ·have:=aAQ h;omega
  ·cases h
def basic:TypeDesc->Bool
 | .bool=>true
 | .int _=>true
 | .string=>true
 | _=>false
def supp (P:Program):Nat->TypeId->Bool
 | 0,_=>false
 | n+1,t=>match partsOf P t with
  | some l=>decide (QQ P l 0=some (P.cellsOf t)) && l.all fun f=>supp P n f.1
  | none=>match P.underlying t with
   | some (.slice e)=>decide (0<P.cellsOf e) && supp P n e
   | some d=>basic d
   | none=>false
def aN8 (P:Program) (p:TypeId->List PV->Prop):List (TypeId × Nat)->List PV->Prop
 | [],xs=>xs=[]
 | f::r,xs=>∃ ys zs,xs=ys++zs/\ys.length=P.cellsOf f.1/\p f.1 ys/\aN8 P p r zs
def SG (P:Program):Nat->TypeId->List PV->Prop
 | 0,_,_=>False
 | m+1,t,xs=>match partsOf P t with
  | some l=>aN8 P (SG P m) l xs
  | none=>match P.underlying t with
   | some .bool=>∃ b,xs=[.bool b]
   | some (.int k)=>∃ n,xs=[.int k n]/\(Lit.int k n).wf=true
   | some .string=>∃ s,xs=[.str s]/\s.length<=maxLen
   | some (.slice e)=>match Nat.beq (P.cellsOf e) 1 with
    | true=>∃ ys,xs=[.Dh ys]/\ys.length<=maxLen/\∀ y∈ys,SG P m e [y]
    | false=>∃ OU,xs=[.Ai (P.cellsOf e) OU]/\OU.length<=maxLen/\∀ ys∈OU,SG P m e ys
   | _=>False
section
variable {H:Type} {enc:TypeId × Value->H} {P:Program} {W:World} {sp:Nat->Bool} {held:Bool}
theorem SH {a:Addr} {n:Nat} {cs:List Value} (hn:0<n) (h:W.cells? 0 a n=some cs) :
  ∃ c t z,W.heap[a.block]?=some (.cells c t z)/\a.spot=none/\cs.length=n/\a.off+n<=c.toList.length/\cs=(c.toList.drop a.off).take n:=by
 unfold World.cells? at h
 rw [qM (qL _)] at h
 have hl:=mapM_some_length h
 rw [kT] at hl
 have hg:∀ i,i<n->W.cell? (a.add i)=cs[i]?:=fun i hi=>mapM_some_get h i i (by simp [hi])
 have h0:=hg 0 hn
 have ha:a.add 0=a:=by simp [Addr.add]
 rw [ha,qW ME] at h0
 unfold World.cell? at h0
 split at h0
 ·rename_i c t z hb
  have hs:a.spot=none:=by
   cases hs:a.spot with
   | none=>rfl
   | some _=>simp [hs] at h0
  have AO:∀ i,i<n->c[a.off+i]?=cs[i]?:=by
   intro i hi
   have:=hg i hi
   unfold World.cell? at this
   have hblk:(a.add i).block=a.block:=MIO
   have bK:(a.add i).spot=none:=by unfold Addr.add;split <;> first | exact hs | rfl
   have aGo:(a.add i).off=a.off+i:=by unfold Addr.add;split <;> simp_all
   rw [hblk,hb] at this
   simp only [bK,aGo] at this
   exact MHw
  have hlen:a.off+n<=c.toList.length:=by
   have:=AO (n - 1) ME
   rw [qW ME] at this
   have:=(xK.1 this).1
   simp
   omega
  refine⟨c,t,z,hb,hs,hl,hlen,?_⟩
  refine kU fun i=>?_
  by_cases hi:i<n
  ·rw [<- AO i hi,wB hi,List.getElem?_drop]
   simp
  ·rw [kv ME,kv MEL]
 ·cases h0
def aAP (fz:FW) (W:World):Prop:=∀ b c t z,W.heap[b]?=some (.cells c t z)->fz b=some c.toList
def Rd (P:Program) (fz:FW) (m:Nat) (t:TypeId) (cs:List Value):Prop:=∃ xs,Ey fz xs cs/\(∀ u∈cs,CZ u=true)/\SG P m t xs
theorem aDe {fz:FW} {m:Nat} {cs:List Value}:∀ (l:List (TypeId × Nat)) (o:Nat),QQ P l o=some cs.length->(∀ f∈l,Rd P fz m f.1 ((cs.drop f.2).take (P.cellsOf f.1))) ->
  ∃ xs,Ey fz xs (cs.drop o)/\(∀ u∈cs.drop o,CZ u=true)/\aN8 P (SG P m) l xs
 | [],o,ht,_=>by
  simp only [QQ,qo] at ht
  subst ht
  exact⟨[],by simp [Ey],by simp,rfl⟩
 | f::r,o,ht,hr=>by
  simp only [QQ] at ht
  split at ht
  ·rename_i ho
   have hle:=aAQ ht
   obtain⟨ys,h1,h2,h3⟩:=hr f MBV
   obtain⟨zs,k1,k2,k3⟩:=aDe r (o+P.cellsOf f.1) ht fun g hg=>hr g (by simp [hg])
   rw [ho] at h1 h2
   have e:cs.drop o=(cs.drop o).take (P.cellsOf f.1)++cs.drop (o+P.cellsOf f.1):=by
    rw [<- vX,kE]
   refine⟨ys++zs,?_,?_,ys,zs,rfl,?_,h3,k3⟩
   ·rw [e];exact Ol h1 k1
   ·rw [e];intro u hu;rcases qa.1 hu with hu | hu
    ·exact h2 u hu
    ·exact k2 u hu
   ·rw [<- Cu h1,qj,List.length_drop];omega
  ·cases ht
theorem bD {t:TypeId} {l:List (TypeId × Nat)} (hp:partsOf P t=some l) {n:Nat} {cs:List Value} {x:DataW H × List MemPlace} (h:DataW.trod enc P W 0 sp held n t cs=some x) :
  ∃ (xs:List (DataW H × List MemPlace)) (k:Nat),n=k+1/\x=(.agg (xs.map (·.1)),xs.flatMap (·.2))/\cs.length=P.cellsOf t/\xs.length=l.length /\
   ∀ (i:Nat) (f:TypeId × Nat),l[i]?=some f->DataW.trod enc P W 0 sp held k f.1 ((cs.drop f.2).take (P.cellsOf f.1))=xs[i]?:=by
 unfold partsOf at hp
 split at hp
 ·rename_i fs hu
  injection hp with hp
  subst hp
  obtain⟨xs,k,h1,h2,h3,h4,h5⟩:=DataW.trod_struct hu h
  refine⟨xs,k,h1,h2,h3,MHF,fun i f hf=>?_⟩
  rw [kF,xL] at hf
  obtain⟨g,hg,rfl⟩:=hf
  exact h5 i g (by simpa using hg)
 ·rename_i k' e hu
  injection hp with hp
  subst hp
  obtain⟨xs,k,h1,h2,h3,h4,h5⟩:=DataW.trod_array hu h
  refine⟨xs,k,h1,h2,h3,MHF,fun i f hf=>?_⟩
  rw [kF,xL] at hf
  obtain⟨j,hj,rfl⟩:=hf
  have hi:=(xU.1 hj)
  obtain⟨hi,hj⟩:=hi
  simp at hi hj
  subst hj
  exact h5 i hi
 ·cases hp
theorem pg {l:List (List PV)} (h:∀ cs∈l,cs.length=1):l.flatten.length=l.length/\∀ y∈l.flatten,[y]∈l:=by
 induction l with
 | nil=>simp
 | cons x r ih=>
  have hx:=h x MBV
  obtain⟨y,rfl⟩:∃ y,x=[y]:=by
   match x,hx with
   | [y],_=>exact⟨y,rfl⟩
  obtain⟨h1,h2⟩:=ih fun c hc=>h c MK9
  refine⟨by simp [h1],fun z hz=>?_⟩
  simp at hz
  rcases hz with rfl | hz
  ·simp
  ·have:=h2 z (by simpa using hz)
   simp [this]
theorem Ra {fz:FW} (Qd:aAP fz W):∀ (m:Nat) (t:TypeId) (n:Nat) (cs:List Value) (x:DataW H × List MemPlace),supp P m t=true->DataW.trod enc P W 0 sp held n t cs=some x->Rd P fz m t cs
 | 0,_,_,_,_,hs,_=>by simp [supp] at hs
 | m+1,t,n,cs,x,hs,h=>by
  have ih:=Ra Qd m
  simp only [supp] at hs
  cases hp:partsOf P t with
  | some l=>
   simp only [hp,qC,qJ,qi] at hs
   obtain⟨xs,k,h1,h2,h3,h4,h5⟩:=bD hp h
   obtain⟨ys,g1,g2,g3⟩:=aDe (fz:=fz) (m:=m) (cs:=cs) l 0 (by rw [h3];exact hs.1) fun f hf=>by
    obtain⟨i,hi,rfl⟩:=vN hf
    have:=h5 i _ (qW hi)
    rw [qW ME] at this
    exact ih _ _ _ _ (hs.2 _ hf) this
   exact⟨ys,by simpa using g1,MJ6,by simp only [SG,hp];exact g3⟩
  | none=>
   simp only [hp] at hs
   cases hu:P.underlying t with
   | none=>simp [hu] at hs
   | some d=>
    simp only [hu] at hs
    cases d with
    | bool=>
     obtain⟨b,rfl,_⟩:=DataW.trod_bool hu h
     exact⟨[.bool b],by simp [Ey,VP],by simp [CZ],by simp [SG,hp,hu]⟩
    | int k=>
     obtain⟨b,rfl,_,hw⟩:=DataW.trod_int hu h
     exact⟨[.int k b],by simp [Ey,VP],by simp [CZ],by simp [SG,hp,hu,hw]⟩
    | string=>
     obtain⟨⟨⟨s⟩⟩,rfl,_,hw⟩:=DataW.trod_string hu h
     exact⟨[.str s],by simp [Ey,VP],by simp [CZ],by simp only [SG,hp,hu];exact⟨s,rfl,hw⟩⟩
    | slice e=>
     simp only [qC,qJ] at hs
     obtain⟨fF,hse⟩:=hs
     have fin:∀ (v:Value) (len:Nat) (OU:List (List PV)),len<=maxLen->OU.length=len->(∀ ys∈OU,ys.length=P.cellsOf e/\SG P m e ys)->CZ v=true ->
       (OU=[]->∃ a c,v=.slice a 0 c)->(OU ≠ []->∃ b o c arr us,v=.slice (some ⟨b,o,none⟩) len c/\len<=c/\fz b=some arr/\Sz fz (P.cellsOf e) OU us/\Seg arr o us)->Rd P fz (m+1) t [v]:=by
      intro v len OU hml hlen hty II aMj aMT
      by_cases h1:P.cellsOf e=1
      ·have XW:=pg (l:=OU) fun c hc=>by rw [(hty c hc).1,h1]
       refine⟨[.Dh OU.flatten],?_,by simpa using II,?_⟩
       ·simp only [Ey]
        refine⟨v,[],rfl,?_,rfl⟩
        simp only [VP]
        by_cases hy:OU=[]
        ·exact .inl ⟨by simp [hy],aMj hy⟩
        ·obtain⟨b,o,c,arr,us,k1,k2,k3,k4,k5⟩:=aMT hy
         exact .inr ⟨b,o,c,arr,us,by rw [XW.1,hlen];exact k1,by rw [XW.1,hlen];exact k2,k3,(FU.1 k4).1,k5⟩
       ·simp only [SG,hp,hu,h1]
        exact⟨_,rfl,by rw [XW.1,hlen];exact hml,fun y hy=>(hty _ (XW.2 y hy)).2⟩
      ·refine⟨[.Ai (P.cellsOf e) OU],?_,by simpa using II,?_⟩
       ·simp only [Ey]
        refine⟨v,[],rfl,?_,rfl⟩
        simp only [VP]
        by_cases hy:OU=[]
        ·exact .inl ⟨hy,aMj hy⟩
        ·obtain⟨b,o,c,arr,us,k1,k2,k3,k4,k5⟩:=aMT hy
         exact .inr ⟨b,o,c,arr,us,by rw [hlen];exact k1,by rw [hlen];exact k2,k3,k4,k5⟩
       ·have hb:Nat.beq (P.cellsOf e) 1=false:=Ll h1
        simp only [SG,hp,hu,hb]
        exact⟨_,rfl,by rw [hlen];exact hml,fun y hy=>(hty _ hy).2⟩
     rcases DataW.trod_slice hu h with ⟨rfl,_⟩ | ⟨a,len,cap,elems,rest,n',rfl,rfl,_,_,hlc,hcm,hel,hE,_,_⟩
     ·exact fin _ 0 [] (by simp [maxLen]) rfl (by simp) rfl (fun _=>⟨none,0,rfl⟩) MBV
     ·have JM:∀ i,i<len->∃ Dt,W.cells? 0 (a.add (i * P.cellsOf e)) (P.cellsOf e)=some Dt/\Rd P fz m e Dt:=by
       intro i hi
       have:=hE i hi
       rw [qW ME,jL] at this
       obtain⟨Dt,h1,h2⟩:=this
       exact⟨Dt,h1,ih _ _ _ _ hse h2⟩
      by_cases hl0:len=0
      ·subst hl0
       exact fin _ 0 [] (by simp [maxLen]) rfl (by simp) rfl (fun _=>MG3) MBV
      ·obtain⟨IM,c1,_⟩:=JM 0 ME
       have ha:a.add (0 * P.cellsOf e)=a:=by simp [Addr.add]
       rw [ha] at c1
       obtain⟨c,tt,z,hb,bK,_,_,_⟩:=SH fF c1
       have key:∀ k,k<=len->∃ OU us,OU.length=k/\Sz fz (P.cellsOf e) OU us/\(∀ u∈us,CZ u=true)/\(∀ ys∈OU,ys.length=P.cellsOf e/\SG P m e ys)/\(k ≠ 0->a.off+k * P.cellsOf e<=c.toList.length)/\us=(c.toList.drop a.off).take (k * P.cellsOf e):=by
        intro k
        induction k with
        | zero=>intro _;exact⟨[],[],rfl,by simp [Sz],by simp,by simp,by simp,by simp⟩
        | succ k ihk=>
         intro hk
         obtain⟨OU,us,k1,k2,k3,k4,k5,k6⟩:=ihk ME
         obtain⟨Dt,d1,ys,d2,d3,d4⟩:=JM k ME
         obtain⟨c',tt',z',e1,e2,e3,e4,e5⟩:=SH fF d1
         have hblk:(a.add (k * P.cellsOf e)).block=a.block:=MIO
         have aGo:(a.add (k * P.cellsOf e)).off=a.off+k * P.cellsOf e:=by unfold Addr.add;split <;> simp_all
         rw [hblk,hb] at e1
         simp only [qo,Obj.cells.injEq] at e1
         obtain⟨rfl,_,_⟩:=e1
         rw [aGo] at e4 e5
         have fM:ys.length=P.cellsOf e:=by rw [<- Cu d2,e3]
         have hf:=FU.1 k2
         refine⟨OU++[ys],us++Dt,by simp [k1],FU.2 ⟨?_,?_⟩,?_,?_,fun _=>by rw [jm];omega,?_⟩
         ·simpa using Ol hf.1 d2
         ·intro q hq;rcases qa.1 hq with hq | hq
          ·exact hf.2 q hq
          ·simp at hq;subst hq;exact fM
         ·intro u hu;rcases qa.1 hu with hu | hu
          ·exact k3 u hu
          ·exact d3 u hu
         ·intro q hq;rcases qa.1 hq with hq | hq
          ·exact k4 q hq
          ·simp at hq;subst hq;exact⟨fM,d4⟩
         ·rw [k6,e5,jm,List.take_add,vX]
       obtain⟨OU,us,k1,k2,k3,k4,k5,k6⟩:=key len (qN _)
       have k5:=k5 hl0
       have ES:OU ≠ []:=by intro e;subst e;simp at k1;omega
       refine fin _ len OU ME k1 k4 rfl (fun e=>absurd e ES) fun _=>⟨a.block,a.off,cap,c.toList,us,?_,hlc,Qd _ _ _ _ hb,k2,?_⟩
       ·obtain⟨ab,ao,asp⟩:=a;simp only [] at bK;subst bK;rfl
       ·refine⟨c.toList.take a.off,c.toList.drop (a.off+len * P.cellsOf e),?_,?_,k3⟩
        ·rw [k6,qO,<- vX,kE,kE]
        ·rw [qj];omega
    | _=>simp [basic] at hs
mutual
def QP:DataW H->Option (List PV)
 | .lit (.bool b)=>some [.bool b]
 | .lit (.int k n)=>some [.int k n]
 | .lit (.string s)=>some [.str s]
 | .agg ps=>bE ps
 | _=>none
def bE:List (DataW H)->Option (List PV)
 | []=>some []
 | d::r=>match QP d,bE r with
  | some xs,some ys=>some (xs++ys)
  | _,_=>none
end
theorem aAR {fz:FW} {cs:List Value} {Q:DataW H->List Value->Prop} (hQ:∀ d us xs,Q d us->QP d=some xs->Ey fz xs us/\∀ u∈us,CZ u=true):∀ (l:List (TypeId × Nat)) (ds:List (DataW H)) (o:Nat) (xs:List PV),QQ P l o=some cs.length->ds.length=l.length ->
  (∀ (i:Nat) f d,l[i]?=some f->ds[i]?=some d->Q d ((cs.drop f.2).take (P.cellsOf f.1)))->bE ds=some xs->Ey fz xs (cs.drop o)/\∀ u∈cs.drop o,CZ u=true
 | [],ds,o,xs,ht,hl,_,hd=>by
  simp only [QQ,qo] at ht
  subst ht
  obtain rfl:=qY hl
  simp only [bE,qo] at hd
  subst hd
  simp [Ey]
 | f::r,[],o,xs,ht,hl,_,hd=>by simp at hl
 | f::r,d::ds,o,xs,ht,hl,hr,hd=>by
  simp only [QQ] at ht
  split at ht
  ·rename_i ho
   simp only [bE] at hd
   split at hd
   ·rename_i ys zs e1 e2
    injection hd with hd
    subst hd
    have h1:=hQ d _ ys (hr 0 f d rfl rfl) e1
    have h2:=aAR hQ r ds (o+P.cellsOf f.1) zs ht (by simpa using hl) (fun i g e hg he=>hr (i+1) g e hg he) e2
    rw [ho] at h1
    have e:cs.drop o=(cs.drop o).take (P.cellsOf f.1)++cs.drop (o+P.cellsOf f.1):=by
     rw [<- vX,kE]
    rw [e]
    refine⟨Ol h1.1 h2.1,fun u hu=>?_⟩
    rcases qa.1 hu with hu | hu
    ·exact h1.2 u hu
    ·exact h2.2 u hu
   ·cases hd
  ·cases ht
theorem Ug {fz:FW}:∀ (m:Nat) (t:TypeId) (n:Nat) (cs:List Value) (x:DataW H × List MemPlace) (xs:List PV),supp P m t=true->DataW.trod enc P W 0 sp held n t cs=some x->QP x.1=some xs->Ey fz xs cs/\∀ u∈cs,CZ u=true
 | 0,_,_,_,_,_,hs,_,_=>by simp [supp] at hs
 | m+1,t,n,cs,x,xs,hs,h,hd=>by
  have ih:=Ug (fz:=fz) m
  simp only [supp] at hs
  cases hp:partsOf P t with
  | some l=>
   simp only [hp,qC,qJ,qi] at hs
   obtain⟨ys,k,h1,h2,h3,h4,h5⟩:=bD hp h
   rw [h2] at hd
   simp only [QP] at hd
   have:=aAR (fz:=fz) (P:=P) (cs:=cs) (Q:=fun d us=>∀ xs,QP d=some xs->Ey fz xs us/\∀ u∈us,CZ u=true) (fun d us xs hq hx=>hq xs hx) l (ys.map (·.1)) 0 xs (by rw [h3];exact hs.1) MHF (fun i f d hf hd'=>by
    rw [kF,xL] at hd'
    obtain⟨y,hy,rfl⟩:=hd'
    have e:=h5 i f hf
    rw [hy] at e
    intro xs hx
    exact ih _ _ _ _ xs (hs.2 _ (jD hf)) e hx) hd
   exact MHw
  | none=>
   simp only [hp] at hs
   cases hu:P.underlying t with
   | none=>simp [hu] at hs
   | some d=>
    simp only [hu] at hs
    cases d with
    | bool=>
     obtain⟨b,rfl,rfl⟩:=DataW.trod_bool hu h
     exact MEv
    | int k=>
     obtain⟨b,rfl,rfl,hw⟩:=DataW.trod_int hu h
     exact MEv
    | string=>
     obtain⟨⟨⟨s⟩⟩,rfl,rfl,hw⟩:=DataW.trod_string hu h
     exact MEv
    | slice e=>
     rcases DataW.trod_slice hu h with ⟨rfl,rfl⟩ | ⟨a,len,cap,elems,rest,n',rfl,rfl,rfl,_⟩
     ·simp [QP] at hd
     ·simp [QP] at hd
    | _=>simp [basic] at hs
end
end Go.Proofs.YtkegmchjobphdaaGreatDoor.Y
namespace Go.Proofs.YtkegmchjobphdaaGreatDoor.Y
open Go
theorem mapM_mono {α β:Type} {f g:α->Option β}:∀ {l:List α} {r:List β},(∀ x∈l,∀ y,f x=some y->g x=some y)->l.mapM f=some r->l.mapM g=some r
 | [],r,_,h=>by simpa using h
 | x::l,r,hfg,h=>by
  simp only [zl,Option.bind_eq_bind,jL,Option.pure_def,qo] at h ⊢
  obtain⟨y,h1,ys,h2,h3⟩:=h
  exact⟨y,hfg x MBV y h1,ys,mapM_mono (fun z hz=>hfg z (by simp [hz])) h2,h3⟩
def Kept (W W':World):Prop:=∀ (b:Nat) (o:Obj),W.heap[b]?=some o->W'.heap[b]?=some o
section
variable {H:Type} {enc:TypeId × Value->H} {P:Program} {W W':World} {sp':Nat->Bool} {held:Bool}
theorem Kept.cell (hk:Kept W W') {a:Addr} {v:Value} (h:W.cell? a=some v):W'.cell? a=some v:=by
 unfold World.cell? at h ⊢
 split at h
 ·rename_i c t z hb
  rw [hk _ _ hb]
  exact h
 ·cases h
theorem Kept.cells (hk:Kept W W') {a:Addr} {n:Nat} {cs:List Value} (h:W.cells? 0 a n=some cs):W'.cells? 0 a n=some cs:=by
 unfold World.cells? at h ⊢
 rw [qM (qL _)] at h ⊢
 exact mapM_mono (fun _ _ _ hx=>hk.cell hx) h
theorem lH (hk:Kept W W') (bK:∀ b,b<W.heap.size->sp' b=true):∀ (m:Nat) (t:TypeId) (n:Nat) (cs:List Value) (x:DataW H × List MemPlace),supp P m t=true->DataW.trod enc P W 0 (fun _=>true) held n t cs=some x->DataW.trod enc P W' 0 sp' held n t cs=some x
 | 0,_,_,_,_,hs,_=>by simp [supp] at hs
 | m+1,t,0,cs,x,hs,h=>by simp [DataW.trod] at h
 | m+1,t,n+1,cs,x,hs,h=>by
  have ih:=lH hk bK m
  simp only [supp] at hs
  cases hu:P.underlying t with
  | none=>
   have hp:partsOf P t=none:=MHP
   simp [hp,hu] at hs
  | some d=>
   cases d with
   | struct fs=>
    have hp:partsOf P t=some (fs.toList.map fun f=>(f.type,f.offset)):=MHP
    simp only [hp,qC,qi] at hs
    unfold DataW.trod at h ⊢
    rw [hu] at h ⊢
    simp only [] at h ⊢
    split at h
    ·rename_i hl
     rw [qM hl]
     rw [xL] at h ⊢
     obtain⟨xs,h1,h2⟩:=h
     exact⟨xs,mapM_mono (fun f hf y hy=>ih _ _ _ _ (hs.2 (f.type,f.offset) (List.mem_map_of_mem hf)) hy) h1,h2⟩
    ·cases h
   | array k e=>
    have hp:partsOf P t=some ((List.range k).map fun i=>(e,i * P.cellsOf e)):=MHP
    simp only [hp,qC,qi] at hs
    unfold DataW.trod at h ⊢
    rw [hu] at h ⊢
    simp only [] at h ⊢
    split at h
    ·rename_i hl
     rw [qM hl]
     rw [xL] at h ⊢
     obtain⟨xs,h1,h2⟩:=h
     exact⟨xs,mapM_mono (fun i hi y hy=>ih _ _ _ _ (hs.2 (e,i * P.cellsOf e) (List.mem_map_of_mem hi)) hy) h1,h2⟩
    ·cases h
   | bool=>
    obtain⟨b,rfl,rfl⟩:=DataW.trod_bool hu h
    unfold DataW.trod;rw [hu]
   | int k=>
    obtain⟨b,rfl,rfl,hw⟩:=DataW.trod_int hu h
    unfold DataW.trod;rw [hu];simp [hw]
   | string=>
    obtain⟨s,rfl,rfl,hw⟩:=DataW.trod_string hu h
    unfold DataW.trod;rw [hu];simp [hw]
   | slice e=>
    have hp:partsOf P t=none:=MHP
    simp only [hp,hu,qC,qJ] at hs
    rcases DataW.trod_slice hu h with ⟨rfl,rfl⟩ | ⟨a,len,cap,_,_,_,_,rfl,_⟩
    ·unfold DataW.trod;rw [hu];rfl
    unfold DataW.trod at h ⊢
    rw [hu] at h ⊢
    simp only [jv] at h ⊢
    split at h
    rotate_left
    ·cases h
    rename_i hc
    rw [qM hc]
    rw [jL] at h ⊢
    obtain⟨elems,h1,h2⟩:=h
    rw [xL] at h2
    obtain⟨rest,h2,h3⟩:=h2
    have el:∀ i y,(W.cells? 0 (a.add (i * P.cellsOf e)) (P.cellsOf e)).bind (DataW.trod enc P W 0 (fun _=>true) held n e)=some y->(W'.cells? 0 (a.add (i * P.cellsOf e)) (P.cellsOf e)).bind (DataW.trod enc P W' 0 sp' held n e)=some y:=by
     intro i y hy
     rw [jL] at hy ⊢
     obtain⟨Dt,g1,g2⟩:=hy
     exact⟨Dt,hk.cells g1,ih _ _ _ _ hs.2 g2⟩
    refine⟨elems,mapM_mono (fun i _ y hy=>el i y hy) h1,?_⟩
    rw [xL]
    refine⟨rest,?_,h3⟩
    by_cases hd:cap - len=0
    ·rw [hd] at h2 ⊢
     simp at h2
     subst h2
     cases sp' a.block <;> simp
    ·have hb:a.block<W.heap.size:=by
      have hl:=mapM_some_length h2
      rw [kT] at hl
      have:=mapM_some_get h2 0 0 (by rw [qW MEL];simp)
      rw [qW ME,jL] at this
      obtain⟨Dt,g1,_⟩:=this
      obtain⟨c,t',z,g3,_⟩:=SH hs.1 g1
      have hblk:(a.add ((len+0) * P.cellsOf e)).block=a.block:=MIO
      rw [hblk] at g3
      exact(xK.1 g3).1
     rw [qM (bK _ hb)]
     exact mapM_mono (fun i _ y hy=>el (len+i) y hy) h2
   | _=>
    have hp:partsOf P t=none:=MHP
    simp [hp,hu,basic] at hs
theorem Ud (hk:Kept W W') (bK:∀ b,b<W.heap.size->sp' b=true) (m:Nat):∀ {ts:List TypeId} {vs:List Value} {ds:List (DataW H)} {ps:List MemPlace},ts.all (supp P m)=true->DataW.TrodAll enc P W 0 (fun _=>true) held ts vs ds ps->DataW.TrodAll enc P W' 0 sp' held ts vs ds ps
 | [],[],[],ps,_,h=>h
 | t::ts,v::vs,d::ds,ps,hs,h=>by
  simp only [jB,qC] at hs
  obtain⟨p,q,⟨fuel,h1⟩,h2,h3⟩:=h
  exact⟨p,q,⟨fuel,lH hk bK m _ _ _ _ hs.1 h1⟩,Ud hk bK m hs.2 h2,h3⟩
 | [],[],_::_,ps,_,h=>MDa
 | [],_::_,_,ps,_,h=>MDa
 | _::_,[],_,ps,_,h=>MDa
 | _::_,_::_,[],ps,_,h=>MDa
def aAO (P:Program) (m:Nat) (t:TypeId) (x:PV):Prop:=match partsOf P t with
 | some _=>∃ xs,x=.agg xs/\SG P m t xs
 | none=>SG P m t [x]
def rG (P:Program) (m:Nat):List TypeId->List PV->Prop
 | [],xs=>xs=[]
 | t::ts,xs=>∃ x r,xs=x::r/\aAO P m t x/\rG P m ts r
def Ue (W:World):FW:=fun b=>match W.heap[b]? with
 | some (.cells c _ _)=>some c.toList
 | _=>none
theorem bC (W:World):aAP (Ue W) W:=fun b c t z h=>by simp [Ue,h]
theorem aFW {b:Nat} {arr:List Value} (h:Ue W b=some arr):∃ c t z,W.heap[b]?=some (.cells c t z)/\arr=c.toList:=by
 unfold Ue at h
 split at h
 ·rename_i c t z hb
  injection h with h
  exact⟨c,t,z,hb,h.symm⟩
 ·cases h
theorem aN7 {m:Nat} {base:Nat} {t:TypeId} {v:Value} {d:DataW H} {ps:List MemPlace} (hs:supp P m t=true) (Lc:Value.okWide P W .any base t v) (h:DataW.Trod enc P W 0 (fun _=>true) true t v d ps):∃ x,VP (Ue W) x v/\aAO P m t x:=by
 obtain⟨fuel,h⟩:=h
 obtain⟨xs,h1,h2,h3⟩:=Ra (bC W) m t fuel _ _ hs h
 unfold Value.okWide at Lc
 cases hp:partsOf P t with
 | some l=>
  have:∃ cs,v=.agg cs:=by
   unfold partsOf at hp
   split at hp
   ·rename_i fs hu;simp only [hu] at Lc;obtain⟨cs,h,_⟩:=Lc;exact⟨cs,h⟩
   ·rename_i k e hu;simp only [hu] at Lc;obtain⟨cs,h,_⟩:=Lc;exact⟨cs,h⟩
   ·cases hp
  obtain⟨cs,rfl⟩:=this
  exact⟨.agg xs,by simp only [VP];exact⟨cs,rfl,h1⟩,by simp only [aAO,hp];exact⟨xs,rfl,h3⟩⟩
 | none=>
  have hv:v.cells=#[v]:=by
   cases m with
   | zero=>simp [supp] at hs
   | succ m=>
    simp only [supp,hp] at hs
    cases hu:P.underlying t with
    | none=>simp [hu] at hs
    | some d=>
     simp only [hu] at hs Lc
     cases d with
     | struct fs=>simp [partsOf,hu] at hp
     | array k e=>simp [partsOf,hu] at hp
     | bool=>cases v <;> simp_all [Cell.okWide,Cell.ok,Value.cells]
     | int k=>cases v <;> simp_all [Cell.okWide,Cell.ok,Value.cells]
     | string=>cases v <;> simp_all [Cell.okWide,Cell.ok,Value.cells]
     | slice e=>cases v <;> simp_all [Cell.okWide,Cell.ok,Value.cells]
     | _=>simp [basic] at hs
  rw [hv] at h1
  obtain⟨x,rfl,h4⟩:∃ x,xs=[x]/\VP (Ue W) x v:=by
   match xs,h1 with
   | [],h1=>simp [Ey] at h1
   | x::r,h1=>
    simp only [Ey] at h1
    obtain⟨u,us,e,g1,g2⟩:=h1
    simp only [jc] at e
    obtain⟨rfl,rfl⟩:=e
    match r,g2 with
    | [],_=>exact⟨x,rfl,g1⟩
    | y::r,g2=>simp [Ey] at g2
  exact⟨x,h4,by simp only [aAO,hp];exact h3⟩
theorem XM {m base:Nat}:∀ {ts:List TypeId} {vs:List Value} {ds:List (DataW H)} {ps:List MemPlace},ts.all (supp P m)=true->(∀ (j:Nat) t v,ts[j]?=some t->vs[j]?=some v->Value.okWide P W .any base t v)->DataW.TrodAll enc P W 0 (fun _=>true) true ts vs ds ps ->
  ∃ xs,Ey (Ue W) xs vs/\rG P m ts xs/\ds.length=ts.length
 | [],[],[],ps,_,_,_=>⟨[],by simp [Ey],rfl,rfl⟩
 | t::ts,v::vs,d::ds,ps,hs,hv,h=>by
  simp only [jB,qC] at hs
  obtain⟨p,q,h1,h2,h3⟩:=h
  obtain⟨x,g1,g2⟩:=aN7 hs.1 (hv 0 t v rfl rfl) h1
  obtain⟨xs,k1,k2,k3⟩:=XM hs.2 (fun j t v ht hv'=>hv (j+1) t v ht hv') h2
  exact⟨x::xs,by simp only [Ey];exact⟨v,vs,rfl,g1,k1⟩,⟨x,xs,rfl,g2,k2⟩,by simp [k3]⟩
 | [],[],_::_,ps,_,_,h=>MDa
 | [],_::_,_,ps,_,_,h=>MDa
 | _::_,[],_,ps,_,_,h=>MDa
 | _::_,_::_,[],ps,_,_,h=>MDa
end
def gtOK (P:Program) (m:Nat):List (Nat × List PV)->List (String × DataW Unit)->Prop
 | [],_=>True
 | (g,cs)::r,(n,d)::r'=>P.globalNamed n=some g/\(∃ t,(P.globals[g]?).map (·.type)=some t/\supp P m t=true)/\QP d=some cs/\gtOK P m r r'
 | _::_,[]=>False
theorem Uf {P:Program} {m:Nat} {W:World}:∀ {gt:List (Nat × List PV)} {laid:List (String × DataW Unit)} {ps:List MemPlace},gtOK P m gt laid->DataW.LaidVars P W laid ps->∀ g cs,mY gt g=some cs->ZT (Ue W) g cs
 | [],_,_,_,_,g,cs,h=>by simp [mY] at h
 | (g',Dt)::r,[],_,hg,_,g,cs,h=>by simp [gtOK] at hg
 | (g',Dt)::r,(n,d)::r',ps,hg,hl,g,cs,h=>by
  obtain⟨h1,⟨t,h2,h3⟩,h4,h5⟩:=hg
  obtain⟨g0,t0,IM,fuel,p,q,k1,k2,k3,k4,k5,k6⟩:=hl
  rw [h1] at k1
  injection k1 with k1
  subst k1
  rw [h2] at k2
  injection k2 with k2
  subst k2
  simp only [mY] at h
  split at h
  ·rename_i he
   have he:=qI he
   subst he
   injection h with h
   subst h
   obtain⟨g1,g2⟩:=Ug (fz:=Ue W) m t fuel _ _ _ h3 k4 h4
   have hb:∃ ty z,W.heap[g']?=some (.cells IM ty z):=by
    unfold World.var? at k3
    rw [h1] at k3
    simp only [Option.bind_some] at k3
    split at k3
    ·rename_i c ty z hb
     injection k3 with k3
     subst k3
     exact⟨ty,z,hb⟩
    ·cases k3
   obtain⟨ty,z,hb⟩:=hb
   exact⟨by simp only [VP];exact⟨g',0,IM.toList,IM.toList,rfl,bC W _ _ _ _ hb,g1,[],[],by simp,rfl,g2⟩,IM.toList,bC W _ _ _ _ hb,Cu g1⟩
  ·exact Uf h5 k5 g cs h
section
variable {cx:Cx}
theorem RA {H:Type} {enc:TypeId × Value->H} {W:World} {f:FuncId} {fn:Func} {c:Code} {m base:Nat} {args:Array Value} {ds:List (DataW H)} {ps:List MemPlace}
  (hf : cx.P.funcs[f]? = some fn) (hname : (fn.name == "runtime.NumGoroutine") = false) (hb : fn.body = some c) (hs : fn.params.toList.all (supp cx.P m) = true)
  (aQD:∀ xs,rG cx.P m fn.params.toList xs->Pure cx f xs (·=.ret [.bool true]))
  (Lc:∀ (j:Nat) t v,fn.params[j]?=some t->args[j]?=some v->Value.okWide cx.P W .any base t v)
  (hA:DataW.TrodAll enc cx.P W 0 (fun _=>true) true fn.params.toList args.toList ds ps)
  (aQE:∀ g cs,mY cx.gt g=some cs->ZT (Ue W) g cs) :
  Calls cx.P f args W fun e W'=>e=.returned (.bool true)/\W'.os=W.os/\W'.output=W.output/\∀ k,k<W.heap.size->W'.heap[k]?=W.heap[k]?:=by
 obtain⟨xs,h1,h2,_⟩:=XM hs (fun j t v ht hv=>Lc j t v (by simpa using ht) (by simpa using hv)) hA
 have hR:R cx ⟨fun _=>none,Ue W⟩ ⟨0,[]⟩ W:=by
  refine⟨aQE,fun _ _=>rfl,fun b arr hb=>?_,fun n o hn=>by simp [Aq] at hn,fun n o q hn=>MJc,fun n o m p q q' hn=>MDn⟩
  obtain⟨c,t,z,g1,rfl⟩:=aFW hb
  exact⟨t,z,g1⟩
 have key:∀ e w',Fs cx ⟨fun _=>none,Ue W⟩ ⟨0,[]⟩ W (YJ (·=.ret [.bool true])) e w'->e=.returned (.bool true)/\w'.os=W.os/\w'.output=W.output/\∀ k,k<W.heap.size->w'.heap[k]?=W.heap[k]?:=by
  intro e w' hP
  obtain⟨r,BU,hq,_,hE,_,hT,_⟩:=QZ hR hP
  subst hq
  obtain⟨v',rfl,hv⟩:=hE
  simp only [VR,VP] at hv
  subst hv
  exact⟨rfl,hT.os,hT.output,fun k hk=>hT.kept k hk OM⟩
 have Jc:=run_enter hf hname hb args W
 rcases aQD xs h2 ⟨fun _=>none,Ue W⟩ W args.toList hR (CJ.2 h1) with ⟨_,h4⟩ | ⟨v',w',h4,_⟩
 ·exact h4.mono key
 ·rw [Jc] at h4
  injection h4 with h4
  cases h4
theorem SN {H:Type} {enc:TypeId × Value->H} {W W':World} {fn:Func} {s:ChangeSpec} {m:Nat} {bt:TypeId} {apart fresh handsOn:Bool} {args:Array Value} {ds gs:List (DataW H)} {before:List MemPlace}
  (hs:fn.params.toList.all (supp cx.P m)=true) (aMS:s.vars=[]) (Js:fn.resultTypes=#[bt]) (uC:cx.P.underlying bt=some .bool)
  (Vn:∀ ds:List (DataW H),ds.length=fn.params.toList.length->s.fn H ds={ results:=[.lit (.bool true)],args:=ds })
  (hW:DataW.Whole enc cx.P fn.params.toList s.vars apart W args.toList ds gs before) (hlen:ds.length=fn.params.toList.length)
  (hos:W'.os=W.os) (aR1:W'.output=W.output) (KZ:∀ k,k<W.heap.size->W'.heap[k]?=W.heap[k]?) :
  s.post enc cx.P fn apart fresh handsOn false W args (.bool true) W':=by
 have hk:Kept W W':=fun b o hb=>by rw [KZ b (xK.1 hb).1];exact hb
 have hW':=hW
 obtain⟨p,q,h1,h2,_,_,_⟩:=hW'
 rw [aMS] at h2
 obtain⟨rfl,rfl⟩:=Go.ChangeShapes.trodVars_none h2
 have e:s.fn H (ds++[])={ results:=[.lit (.bool true)],args:=ds }:=by rw [qU];exact Vn ds hlen
 refine⟨ds,[],before,[],p,[],hW,?_,?_,?_,?_,fun h=>MGA⟩
 ·rw [e,Js]
  exact Go.ChangeShapes.trodAll_mk1 (Go.RowKit.shut_bool uC true)
 ·rw [e]
  exact Ud hk (fun b hb=>by simpa using hb) m hs h1
 ·rw [e,aMS]
  rfl
 ·refine⟨hos,aR1,fun i hi=>?_⟩
  rw [KZ i hi]
  have:=xV hi
  rw [this]
  cases W.heap[i] <;> simp
end
end Go.Proofs.YtkegmchjobphdaaGreatDoor.Y
namespace Go.Proofs.YtkegmchjobphdaaGreatDoor
open Go Y
set_option maxRecDepth 100000
set_option maxHeartbeats 4000000
theorem Jz {m:Nat} {xs:List PV} (h:SG Tryz.prog (m+1) 5 xs):∃ b:UInt8,xs=[u8 b]:=by
 have hp:partsOf Tryz.prog 5=none:=MFl
 simp only [SG,hp,Tryz.underlying5] at h
 obtain⟨n,rfl,hw⟩:=h
 have:=bounds_u8 hw
 refine⟨UInt8.ofNat n.toNat,?_⟩
 have e:((UInt8.ofNat n.toNat).toNat:Int)=n:=by
  simp
  omega
 rw [u8,e]
theorem bB {α:Type} {f:α->List PV} {P:α->Prop} {ys:List (List PV)} (h:∀ y∈ys,∃ a,y=f a/\P a):∃ zs:List α,ys=zs.map f/\∀ z∈zs,P z:=by
 induction ys with
 | nil=>exact⟨[],rfl,by simp⟩
 | cons y r ih=>
  obtain⟨a,rfl,ha⟩:=h y MBV
  obtain⟨zs,rfl,hz⟩:=ih fun z hz=>h z (by simp [hz])
  exact⟨a::zs,rfl,fun z hm=>by rcases qw.1 hm with rfl | hm;exact ha;exact hz z hm⟩
theorem aDd {m:Nat} {xs:List PV} (h:SG Tryz.prog (m+1) 4 xs):∃ b,xs=[.bool b]:=by
 have hp:partsOf Tryz.prog 4=none:=by simp [partsOf,Tryz.underlying4]
 simp only [SG,hp,Tryz.underlying4] at h
 exact h
theorem Um {m:Nat} {t:TypeId} {x:PV} (hp:partsOf Tryz.prog t=none) (h:aAO Tryz.prog m t x):SG Tryz.prog m t [x]:=by
 simpa only [aAO,hp] using h
theorem aDb {m:Nat} {xs:List PV} (h:SG Tryz.prog (m+2) 24 xs):∃ a b c:UInt8,xs=[u8 a,u8 b,u8 c]:=by
 have hp:partsOf Tryz.prog 24=some [(5,0),(5,1),(5,2)]:=MK
 rw [SG] at h
 simp only [hp] at h
 obtain⟨x1,_,rfl,_,h1,x2,_,rfl,_,h2,x3,_,rfl,_,h3,rfl⟩:=h
 obtain⟨a,rfl⟩:=Jz h1
 obtain⟨b,rfl⟩:=Jz h2
 obtain⟨c,rfl⟩:=Jz h3
 exact⟨a,b,c,rfl⟩
theorem aJJ {m:Nat} {xs:List PV} (h:SG Tryz.prog (m+3) 143 xs):∃ p:Pc,xs=p.cells:=by
 have hp:partsOf Tryz.prog 143=some [(5,0),(5,1),(5,2),(5,3),(24,4)]:=MK
 rw [SG] at h
 simp only [hp] at h
 obtain⟨x1,_,rfl,_,h1,x2,_,rfl,_,h2,x3,_,rfl,_,h3,x4,_,rfl,_,h4,x5,_,rfl,_,h5,rfl⟩:=h
 obtain⟨a,rfl⟩:=Jz h1
 obtain⟨b,rfl⟩:=Jz h2
 obtain⟨c,rfl⟩:=Jz h3
 obtain⟨d,rfl⟩:=Jz h4
 obtain⟨x,y,z,rfl⟩:=aDb h5
 exact⟨⟨a,b,c,d,x,y,z⟩,rfl⟩
theorem aFV {m:Nat} {xs:List PV} (h:SG Tryz.prog (m+4) 23 xs):∃ l:List Pc,xs=[.Ai 7 (l.map Pc.cells)]/\l.length<=9223372036854775807:=by
 have hp:partsOf Tryz.prog 23=none:=by simp [partsOf,Tryz.underlying23]
 have hc:Tryz.prog.cellsOf 143=7:=MK
 rw [SG] at h
 simp only [hp,Tryz.underlying23,hc] at h
 obtain⟨ys,rfl,hn,hy⟩:=h
 obtain⟨l,rfl,_⟩:=bB (f:=Pc.cells) (P:=fun _=>True) fun y hy'=>by
  obtain⟨p,hp⟩:=aJJ (hy y hy')
  exact⟨p,hp,trivial⟩
 rw [qB] at hn
 exact⟨l,rfl,hn⟩
theorem aDc {m:Nat} {xs:List PV} (h:SG Tryz.prog (m+5) 26 xs):∃ p:Pt,xs=p.cells/\p.cases.length<=9223372036854775807:=by
 have hp:partsOf Tryz.prog 26=some [(5,0),(5,1),(5,2),(5,3),(4,4),(23,5),(24,6)]:=MK
 rw [SG] at h
 simp only [hp] at h
 obtain⟨x1,_,rfl,_,h1,x2,_,rfl,_,h2,x3,_,rfl,_,h3,x4,_,rfl,_,h4,x5,_,rfl,_,h5,x6,_,rfl,_,h6,x7,_,rfl,_,h7,rfl⟩:=h
 obtain⟨a,rfl⟩:=Jz h1
 obtain⟨b,rfl⟩:=Jz h2
 obtain⟨c,rfl⟩:=Jz h3
 obtain⟨d,rfl⟩:=Jz h4
 obtain⟨g,rfl⟩:=aDd h5
 obtain⟨l,rfl,hl⟩:=aFV h6
 obtain⟨x,y,z,rfl⟩:=aDb h7
 exact⟨⟨a,b,c,d,g,l,x,y,z⟩,rfl,hl⟩
theorem aAN {m:Nat} {xs:List PV} (h:SG Tryz.prog (m+6) 22 xs):∃ l:List Pt,xs=[.Ai 9 (l.map Pt.cells)]/\l.length<=9223372036854775807/\∀ p∈l,p.cases.length<=9223372036854775807:=by
 have hp:partsOf Tryz.prog 22=none:=by simp [partsOf,Tryz.underlying22]
 have hc:Tryz.prog.cellsOf 26=9:=MK
 rw [SG] at h
 simp only [hp,Tryz.underlying22,hc] at h
 obtain⟨ys,rfl,hn,hy⟩:=h
 obtain⟨l,rfl,hl⟩:=bB (f:=Pt.cells) (P:=fun p=>p.cases.length<=9223372036854775807) fun y hy'=>aDc (hy y hy')
 rw [qB] at hn
 exact⟨l,rfl,hn,hl⟩
theorem Vm {m:Nat} {x:PV} (h:aAO Tryz.prog (m+7) 28 x):∃ d:Dp,x=.agg d.cells/\d.ok:=by
 have hp:partsOf Tryz.prog 28=some [(5,0),(5,1),(22,2),(26,3),(22,12),(4,13)]:=MK
 simp only [aAO,hp] at h
 obtain⟨xs,rfl,h⟩:=h
 rw [SG] at h
 simp only [hp] at h
 obtain⟨x1,_,rfl,_,h1,x2,_,rfl,_,h2,x3,_,rfl,_,h3,x4,_,rfl,_,h4,x5,_,rfl,_,h5,x6,_,rfl,_,h6,rfl⟩:=h
 obtain⟨a,rfl⟩:=Jz h1
 obtain⟨b,rfl⟩:=Jz h2
 obtain⟨l,rfl,l1,l2⟩:=aAN h3
 obtain⟨c,rfl,_⟩:=aDc h4
 obtain⟨k,rfl,k1,k2⟩:=aAN h5
 obtain⟨g,rfl⟩:=aDd h6
 exact⟨⟨a,b,l,c,k,g⟩,rfl,l1,k1,l2,k2⟩
theorem own:ownKnob Tryz.prog.godebug=none:=MK
abbrev laidP : List (String × DataW Unit) := [("math/bits.deBruijn32tab", Rows.laid_math_bits_deBruijn32tab), ("math/bits.deBruijn64tab", Rows.laid_math_bits_deBruijn64tab), ("internal/strconv.uint64pow10", Rows.laid_internal_strconv_uint64pow10), ("haruspex/lex.keys", Rows.laid_haruspex_lex_keys), ("haruspex/lex.marks", Rows.laid_haruspex_lex_marks)]
theorem dW (os:Os) (args:Array Value):laidMetH Tryz.prog laidP ((World.laidAll Tryz.prog os laidP).forCall (fun _ _=>0) ⟨#[],args,[]⟩).memory:=by
 rw [MakeChecks.laidMetH_plain _ _ _ MK]
 exact laidMet_laidAll _ MCX MK
theorem gt_okP (r : List (String × DataW Unit)) : gtOK Tryz.prog 4 cx.gt (("haruspex/lex.keys", Rows.laid_haruspex_lex_keys) :: ("haruspex/lex.marks", Rows.laid_haruspex_lex_marks) :: r) :=
 ⟨by kernel_rfl,⟨297,by kernel_rfl,MIE⟩,rfl,ME7,⟨298,MCX,MK⟩,rfl,trivial⟩
theorem rH {W:World} (h:laidMetH Tryz.prog laidP W):∀ g cs,mY cx.gt g=some cs->ZT (Ue W) g cs:=by
 rw [MakeChecks.laidMetH_plain _ _ _ MK] at h
 obtain⟨ps,h,_⟩:=h
 obtain⟨_,_,_,_,_,_,_,_,_,_,h,_⟩:=h
 obtain⟨_,_,_,_,_,_,_,_,_,_,h,_⟩:=h
 obtain⟨_,_,_,_,_,_,_,_,_,_,h,_⟩:=h
 exact Uf (gt_okP _) h
end Go.Proofs.YtkegmchjobphdaaGreatDoor
