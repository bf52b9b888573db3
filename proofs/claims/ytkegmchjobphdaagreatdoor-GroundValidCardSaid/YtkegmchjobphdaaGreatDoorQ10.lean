/- Part 10 of the proof: Nm Nr -/
import Derived.Test.YtkegmchjobphdaaGreatDoorQ9
namespace Go.Proofs.YtkegmchjobphdaaGreatDoor
open Go Y
set_option maxRecDepth 100000
set_option maxHeartbeats 40000000
theorem Ii.nds {ds:List De} {X:List (List PV)} (h:BN ds) (hX:Ii ds X (AY ds ds)) (refs:List Rf) (idx:Int):aIJ ds X (fun i=>(((AY ds ds).getD i FO).d.n).toNat) (Dn (AY ds ds) refs idx):=by
 refine⟨aDr _ _ _,fun v hv=>?_⟩
 have hl:=IJ v hv
 have h8:=h.eight.2
 have hc:=h.card (Aa FO hl)
 obtain⟨k,j,h1,h2,h3,h4⟩:=hX.at' v hl
 refine⟨by omega,by show 1<=Int.toNat _;omega,by show Int.toNat _<=4;omega,k,j,h1,h2,?_⟩
 rw [<- h3]
 show((AY ds ds).getD v FO).d.n=((Int.toNat _:Nat):Int)
 omega
theorem aFD {C : Cx} {rd : Bool} {n0 N : Nat} {all : List Oper} {σ : Sg} {ds : List AD} {H : Hp} {K : Sg -> List AD -> Hp -> Prop} {X : List AP -> Sg -> List AD -> Hp -> Prop} {α : Type} (sl : α -> List (Nat × AV)) (hp : α -> Hp) (pr : α -> Prop) (ot : OT)
    (h : (C.P.follows .mixedOrders && FN N all (Cr all []) && JB all (Cr all []) ot [] [] []) = true)
    (hv : vD C rd all σ (fun σ' CS H' => ∃ x, pr x /\ O9 C n0 N σ' CS H' (Bh (fun _ => .junk) (sl x)) ds (hp x)) X ot [] ds H) (hk : ∀ x, pr x -> K (Bh (fun _ => .junk) (sl x)) ds (hp x)) :
    ∃ ot, (C.P.follows .mixedOrders && FN N all (Cr all []) && JB all (Cr all []) ot [] [] []) = true /\
    ((vD C rd all σ K X ot [] ds H) ∨
     ∃ (α : Type) (sl : α -> List (Nat × AV)) (hp : α -> Hp) (pr : α -> Prop),
      vD C rd all σ (fun σ' CS H' => ∃ x, pr x /\ O9 C n0 N σ' CS H' (Bh (fun _ => .junk) (sl x)) ds (hp x)) X ot [] ds H /\
      ∀ x, pr x -> K (Bh (fun _ => .junk) (sl x)) ds (hp x)) := ⟨_, h, .inr ⟨α, sl, hp, pr, hv, hk⟩⟩
abbrev aRf:OT:=(.pure 0 (.pure 1 (.pure 2 (.pure 3 (.pure 4 (.pure 5 (.pure 6 (.pure 7 (.pure 8 (.pure 9 (.pure 10 (.pure 11 (.pure 12 (.pure 13 (.A8 14 [11,8,3] (.A8 15 [] .fin .nil) .nil)))))))))))))))
abbrev aPe:OT:=(.pure 0 (.pure 1 (.pure 2 (.pure 3 (.pure 4 (.pure 5 (.pure 6 (.pure 7 (.pure 8 (.A8 9 [8,6,4] (.A8 10 [] .fin .nil) .nil))))))))))
abbrev aPf:OT:=(.pure 0 (.pure 1 (.pure 2 (.pure 3 (.pure 4 (.pure 5 (.pure 6 (.A8 7 [1] (.pure 8 (.A8 9 [6,4,1] (.A8 10 [] .fin .nil) .nil)) (.A8 9 [6,4,1] (.A8 7 [1] (.pure 8 (.A8 10 [] .fin .nil)) .nil) .nil)))))))))
abbrev aPg:OT:=(.pure 0 (.pure 1 (.pure 2 (.pure 3 (.pure 4 (.pure 5 (.pure 6 (.pure 7 (.pure 8 (.A8 9 [] .fin .nil))))))))))
abbrev aPh:OT:=(.pure 0 (.pure 1 (.pure 2 (.A8 3 [1] (.A8 4 [1] (.A8 5 [] (.pure 6 (.A8 7 [] .fin .nil)) .nil) .nil) .nil))))
abbrev aIK:OT:=(.pure 0 (.pure 1 (.pure 2 (.pure 3 (.pure 4 (.pure 5 (.A8 6 [4] (.A8 7 [] (.pure 8 (.pure 9 (.A8 10 [] .fin .nil))) .nil) .nil)))))))
abbrev aPi:OT:=aIK
abbrev aPj:OT:=(.pure 0 (.pure 1 (.pure 2 (.pure 3 (.pure 4 (.pure 5 (.A8 6 [] (.pure 7 (.A8 8 [] .fin .nil)) .nil)))))))
abbrev bN (card:Int) (Jp:List Nat):BxR:=⟨TNd,31,[i64 card,EZ Jp]⟩
abbrev bU (vars:List Nat):BxR:=⟨78,TN,[EZ vars]⟩
def aIL (k j:Nat):Ag:=⟨112,false, .bx [.p (i64 (k:Nat)), .p (i64 (j:Nat))]⟩
theorem aFC (ds:List De) (h:BN ds) (hb:NH ds):Pure cx 13 [JV ds] (·=.ret [.agg [strs ((AY ds ds).map Mb.name),i64 (ds.getD 0 Aj).n, .Ai 3 ((AY ds ds).map (nN (AY ds ds))), .int .u64 (Ho (AY ds ds) 0:Nat), .Ai 2 ((ds.filter fun d=>decide (d.kind=5)).map fun d=>(G5 (AY ds ds) d).cells)],i64 0]):=by
 obtain⟨hl2,aPd⟩:=h.len
 obtain⟨he1,he8⟩:=h.eight
 have hC:=wO ds hb
 rw [aEs h] at hC
 have hds:(ds.map De.cells).length=ds.length:=qB ..
 have hB:=aNf ds h
 have hd0:=Fj (l:=ds) (k:=0) ME
 obtain⟨G,hG⟩:∃ G,G=(ds.getD 0 Aj).n:=MX
 rw [<- hG]
 generalize hdz:ds.getD 0 Aj=dz at hd0 hG
 obtain⟨zk,zn,znm,zpl,zrs,zcs⟩:=dz
 have hG:G=zn:=hG
 refine pure_of_vc Tryz.func13 rfl rfl rfl ?_
 refine hC.eq rfl ?_
 refine MJ ?_
 refine hB.holds.BB [] [] rfl (sk) (sk) fun e0 H0 hq=>?_
 obtain⟨eb,es,X,hT,hX,rfl,rfl⟩:=hq
 refine⟨rfl,_,⟨6,[(5,nkO []),(4,FK es),(3,FK eb),(2,bdO ds X ((AY ds ds).map Mb.name) 3 4 5),(1,zgO),(0,scO ds)]⟩,rfl,rfl,?_⟩
 have hXl:X.length=(AY ds ds).length:=hX.len
 refine AR aRf MK ?_
 refine⟨_,MDM,?_⟩
 refine⟨sk,?_⟩
 have hXm:∀ k,((X.length:Nat):Int)=k->k=((AY ds ds).length:Nat):=fun k e=>by omega
 refine⟨Nat × List (List PV × PV) × List (List PV) × Nat,fun x=>[(2, .ptr 0 0 0),(5, .ptr 1 0 0),(6, .ptr 5 0 0),(7, .ptr 5 0 1),(43, .p (.Ai 2 X)),(44, .p (i64 (AY ds ds).length)),(45, .p (i64 x.1))],fun x=>⟨8,MkS.L ⟨ds,X,(AY ds ds).map Mb.name,eb,es,x.2.1,G,x.2.2.2,x.2.2.1,[]⟩⟩,
  fun x=>x.1<=(AY ds ds).length/\Ew eb es x.2.1/\x.2.2.1=((AY ds ds).take x.1).map (nN (AY ds ds))/\x.2.2.2=Ho ((AY ds ds).take x.1) 0,fun x=>(AY ds ds).length - x.1,?_,?_⟩
 ·refine⟨(0,[],[],0),⟨qL _,fun r idx x b s hf=>by simp [H9] at hf,rfl,rfl⟩,AA [] [(0,1),(1,2),(2,3),(3,4),(4,5),(5,6)] [(6,3),(7,2)] rfl ⟨MCW,MBt,MBW,MC,rfl,qH (fun n:Nat=>i64 n) hXl.symm,rfl,trivial⟩ ?_ rfl⟩
  subst hG
  exact⟨⟨rfl,rfl⟩,MCW,⟨_,rfl,rfl,rfl,_,rfl,_,_,rfl,rfl,_,_,rfl,rfl,_,_,rfl,⟨rfl,rfl,rfl,rfl⟩,_,_,rfl,rfl,_,_,rfl,MFP,rfl⟩,MCx,MCv,MAv,MEi,MBo,trivial⟩
 rintro⟨i,en,nd,dec⟩ ⟨i1,hN,i2,i3⟩
 simp only [] at i1 hN i2 i3
 refine qA (fun m1=>?_) (fun m1=>?_)
 ·have m1:(i:Int)<((AY ds ds).length:Nat):=m1
  have hi:i<(AY ds ds).length:=by omega
  have hmm:=Aa FO hi
  obtain⟨k,j,hk,hXi,bM,hmi⟩:=hX.at' i hi
  have AO:=Fj hk
  have oI:=dZ (AY ds ds) hi
  have GL:=XN (AY ds ds) i1
  have dR:((AY ds ds).take (i+1)).map (nN (AY ds ds))=((AY ds ds).take i).map (nN (AY ds ds))++[nN (AY ds ds) ((AY ds ds).getD i FO)]:=by rw [AU FO hi,qX];rfl
  have hdl:nd.length<=8:=by rw [i2,qB,qj];omega
  obtain⟨j',hj',hje,XB,hi0,hi6,_⟩:=h.member hmm
  have aNg:((AY ds ds).getD i FO).idx<=1000:=by
   have:=wo (p:=ds) (d:=ds.getD j' Aj) (h.aFl (Aa Aj hj'))
   rw [Fh] at hi6;omega
  have NG:(ds.getD k Aj).kind=3∨(ds.getD k Aj).kind=4:=by rw [<- bM];exact(X9 hmm).2
  rw [nN,bM,hmi,<- i2] at dR
  rw [bM,<- i3] at oI
  rw [hmi] at aNg
  rw [<- i3] at GL
  clear hi6 hi0 XB hje hj' bM hmi hmm
  have hP:=aC0 h X ((AY ds ds).map Mb.name) hT hk ((j:Nat):Int) ⟨by omega,aNg⟩ hN
  have oJ:=fun e3 Kw bP=>aIM h X ((AY ds ds).map Mb.name) (en:=Kw) hT hk (.inl e3) ((j:Nat):Int) ⟨by omega,aNg⟩ bP (Dn (AY ds ds) (ds.getD k Aj).refs ((j:Nat):Int))
  have hNd:=Ii.nds h hX (ds.getD k Aj).refs ((j:Nat):Int)
  have hp8:(Dn (AY ds ds) (ds.getD k Aj).refs ((j:Nat):Int)).length<=8:=by
   have:=xH (fun i=>(ds.getD k Aj).refs.any fun r=>pz ((AY ds ds).getD i FO) r ((j:Nat):Int)) (List.range (AY ds ds).length)
   exact MKN
  have XG:(ds.getD k Aj).kind=3->(ds.getD k Aj).cases.length<=12:=fun e=>(h.few hk (.inl e)).2
  have BF:(ds.getD k Aj).kind=3->∀ c∈(ds.getD k Aj).cases,c.Ah.length<=8:=fun e c hc=>(h.case hk (.inl e) hc).2.2.2
  have hex:(ds.getD k Aj).kind=3->∀ vals,∃ c∈(ds.getD k Aj).cases,BM (AY ds ds) ((j:Nat):Int) vals c.cond=true:=fun e vals=>by
   obtain⟨c,hc,n,rel,val,r,st,e⟩:=h.last hk (.inl e)
   exact MIc
  have hrw:DU (AY ds ds) (ds.getD k Aj).cases ((j:Nat):Int) (Dn (AY ds ds) (ds.getD k Aj).refs ((j:Nat):Int)) (DV (AY ds ds).length)=(FE (fun i=>(((AY ds ds).getD i FO).d.n).toNat) (Dn (AY ds ds) (ds.getD k Aj).refs ((j:Nat):Int)) (DV 8)).map (F8 (AY ds ds) (ds.getD k Aj).cases ((j:Nat):Int)):=by
   exact MIs
  rw [hrw] at dR
  clear hrw
  generalize Dn (AY ds ds) (ds.getD k Aj).refs ((j:Nat):Int)=PA at hP oJ hNd hp8 dR
  generalize ds.getD k Aj=d at AO hP oJ XG BF hex dR oI NG
  obtain⟨dk,dn,AQ,Ab,AJ,AZ⟩:=d
  simp only [] at hP oJ XG BF hex dR oI NG
  obtain⟨B,hB⟩:∃ B,B=2 ^ i:=MX
  rw [<- hB] at oI GL
  have aE5:B<18446744073709551616:=by rw [hB];exact aOI ME
  refine⟨_,⟨by omega,[i64 (k:Nat),i64 (j:Nat)],hXi,rfl⟩,?_⟩
  refine AR aPe MK ?_
  refine⟨_,MAR,?_⟩
  refine⟨sk,?_⟩
  refine aFD (α:=List (List PV × PV)) (fun _=>[(2, .ptr 0 0 0),(5, .ptr 1 0 0),(6, .ptr 5 0 0),(7, .ptr 5 0 1),(8, .p (i64 i)),(9, .ptr 8 0 0),(10, .ptr 9 0 0),(11, .ptr 10 0 0),(43, .p (.Ai 2 X)),(44, .p (i64 (AY ds ds).length)),(45, .p (i64 i))]) (fun en2=>⟨11,(10,(bN dn PA).o0)::(9,Bl ⟨dk,dn,AQ,Ab,AJ,AZ⟩)::(8,aIL k j)::MkS.L ⟨ds,X,(AY ds ds).map Mb.name,eb,es,en2,G,dec,nd,[]⟩⟩) (fun en2=>Ew eb es en2) aPf MK ?_ ?_
  ·refine And.intro ?_ ?_
   ·refine hP.holds.BB [] [(0,1),(1,2),(2,3),(3,4)] rfl (sk) (sk) fun e0 H0 hq=>?_
    obtain⟨en2,hN2,rfl,rfl⟩:=hq
    refine⟨rfl,_,⟨10,(4,nkO en2)::(3,FK es)::(2,FK eb)::(1,bdO ds X ((AY ds ds).map Mb.name) 2 3 4)::(9,Bl ⟨dk,dn,AQ,Ab,AJ,AZ⟩)::(8,aIL k j)::(7,nP [])::(6,nO nd)::(5,oK ((AY ds ds).map Mb.name) nd.length 0 G (dec:Nat))::[(0,zgO)]⟩,rfl,rfl,?_⟩
    refine⟨sk,?_⟩
    exact MJC
   ·refine⟨sk,?_⟩
    refine hP.holds.BB [] [(0,1),(1,2),(2,3),(3,4)] rfl (sk) (sk) fun e0 H0 hq=>?_
    obtain⟨en2,hN2,rfl,rfl⟩:=hq
    refine⟨rfl,_,⟨11,(4,nkO en2)::(3,FK es)::(2,FK eb)::(1,bdO ds X ((AY ds ds).map Mb.name) 2 3 4)::(10,_)::(9,Bl ⟨dk,dn,AQ,Ab,AJ,AZ⟩)::(8,aIL k j)::(7,nP [])::(6,nO nd)::(5,oK ((AY ds ds).map Mb.name) nd.length 0 G (dec:Nat))::[(0,zgO)]⟩,rfl,rfl,?_⟩
    exact MJC
  intro en2 hN2
  refine And.intro (fun k4=>?_) (fun k4=>?_)
  ·have k4:dk=4:=k4
   rw [qM k4] at dR oI
   have ho:=aAW (a:=dec) (k:=i) (by rw [<- hB];exact GL)
   rw [<- hB] at ho
   rw [<- ho] at oI
   refine AR aPg MK ?_
   refine⟨by show(0:Int)<=i;omega,(B:Int),by rw [hB];exact aOH ME,?_⟩
   refine⟨((dec ||| B:Nat):Int),orG ME aE5,?_⟩
   refine AR aIK MK ?_
   refine⟨sk,?_⟩
   refine⟨MO,[[i64 dn,EZ PA, .Ad]],rfl,?_⟩
   refine⟨MHe,nd,AB rfl,MJd,nd++[[i64 dn,EZ PA, .Ad]],rfl,?_⟩
   refine MAs ?_
   refine⟨(i+1,en2,nd++[[i64 dn,EZ PA, .Ad]],(dec ||| B)),MGi,( AA [] [(6,12)] [] rfl (sk) ?_ rfl ),MIT⟩
   exact⟨MIe,MFO,⟨_,rfl,rfl,rfl,_,rfl,_,_,rfl,rfl,_,_,rfl,rfl,_,_,rfl,qH (fun j:Nat=>AV.sl 12 3 0 j) (Ak nd _).symm,_,_,rfl,rfl,_,_,rfl,rfl,rfl⟩,MCx,MCv,MAv,MEi,MBo,trivial⟩
  ·have k4:¬ dk=4:=k4
   have k3:dk=3:=by omega
   rw [qG k4] at dR oI
   refine(oJ k3 en2 hN2).holds.BB [] [(0,1),(1,2),(2,3),(3,4)] rfl (sk) (sk) fun e0 H0 hq=>?_
   obtain⟨en3,fs,hN3,Gn,rfl,rfl⟩:=hq
   refine⟨rfl,_,⟨12,(11,Z9)::(4,nkO en3)::(3,FK es)::(2,FK eb)::(1,bdO ds X ((AY ds ds).map Mb.name) 2 3 4)::(10,(bN dn PA).o0)::(9,Bl ⟨dk,dn,AQ,Ab,AJ,AZ⟩)::(8,aIL k j)::(7,nP [])::(6,nO nd)::(5,oK ((AY ds ds).map Mb.name) nd.length 0 G (dec:Nat))::[(0,zgO)]⟩,rfl,rfl,?_⟩
   refine NN ?_
   intro σ' ps ac bd e1 e2 e3 e4
   refine aME (bN dn PA) ⟨ds,X,(AY ds ds).map Mb.name,eb,es,en3,G,dec,nd,[]⟩ ⟨Tryz.f13.ntmps,σ',ps,ac,bd⟩ [(9,Bl ⟨dk,dn,AQ,Ab,AJ,AZ⟩),(8,aIL k j),(7,nP []),(6,nO nd),(5,oK ((AY ds ds).map Mb.name) nd.length 0 G (dec:Nat)),(0,zgO)] MFP hNd hp8 (AY ds ds) ((j:Nat):Int) ⟨dk,dn,AQ,Ab,AJ,AZ⟩ Gn (XG k3) (hex k3) (fun Ah=>ints Ah) _ _ _ ?_ ?_
   ·intro xs hxs
    rw [show F5 ((FE (fun i=>(((AY ds ds).getD i FO).d.n).toNat) PA (DV 8)).map (F8 (AY ds ds) AZ ((j:Nat):Int)))=PV.Dh xs by rw [hxs,F5,kr];rfl] at dR
    clear hxs
    refine AR aIK MK ?_
    refine⟨sk,?_⟩
    refine And.intro MO (Exists.intro _ (And.intro rfl ?_))
    refine Or.inl ⟨[14],[[i64 dn,EZ PA, .Dh xs]],rfl,⟨_,_,rfl,⟨_,_,rfl,rfl,_,_,rfl,rfl,_,_,rfl,⟨_,rfl,MHd,AB rfl⟩,rfl⟩,rfl⟩,?_⟩
    refine⟨MHe,nd,AB rfl,MJd,nd++[[i64 dn,EZ PA, .Dh xs]],rfl,?_⟩
    refine MAs ?_
    refine⟨(i+1,en3,nd++[[i64 dn,EZ PA, .Dh xs]],dec),MGi,O9.aOd 12 rfl ( AA [] [(6,16)] [] rfl (sk) ?_ rfl ),MIT⟩
    exact⟨MIe,MFO,⟨_,rfl,rfl,rfl,_,rfl,_,_,rfl,rfl,_,_,rfl,rfl,_,_,rfl,qH (fun j:Nat=>AV.sl 16 3 0 j) (Ak nd _).symm,_,_,rfl,rfl,_,_,rfl,rfl,rfl⟩,MCx,MCv,MAv,MEi,MBo,trivial⟩
   ·intro Ah xs vals r2 K hxl F4 hK
    have aRg:Ah.length<=8:=by
     obtain⟨c,hc,rfl⟩:=F4
     exact BF k3 c hc
    subst e1 e2 e3 e4
    refine GZ rfl rfl rfl ?_
    refine Er [] ⟨22,iL (bN dn PA) ⟨ds,X,(AY ds ds).map Mb.name,eb,es,en3,G,dec,nd,[]⟩ _ r2 .busy .busy 21 (xs++[ints Ah]) vals⟩ aPh MK ?_ hK
    refine⟨by show(Ah.map i64).length * 8<=140737488355328;rw [qB];omega,?_⟩
    refine⟨sk,?_⟩
    refine⟨sk,?_⟩
    refine Or.inl ⟨[21],[ints Ah],rfl,⟨_,_,rfl,⟨_,rfl,by show 0+(Ah.map i64).length<=(Ah.map i64).length;omega,AB rfl⟩,rfl⟩,?_⟩
    refine⟨MHd,xs,AB rfl,by show(xs.length+1) * 24<=140737488355328;omega,xs++[ints Ah],rfl,?_⟩
    refine AA [] [(21,23)] [] rfl trivial ?_ rfl
    exact⟨MAv,
    MBo,MLE,MCv,MJY,MEp,MCV,MAv,MCy,⟨_,rfl,rfl,rfl,_,rfl,_,_,rfl,rfl,_,_,rfl,rfl,_,_,rfl,qH (fun j:Nat=>AV.sl 23 1 0 j) (Ak xs _).symm,rfl⟩,
    ⟨_,rfl,rfl,rfl,rfl⟩,⟨_,rfl,rfl,rfl,rfl⟩,⟨_,rfl,rfl,rfl,_,rfl,_,_,rfl,rfl,_,_,rfl,rfl,_,_,rfl,rfl,_,_,rfl,rfl,_,_,rfl,rfl,rfl⟩,⟨_,rfl,rfl,rfl,rfl⟩,⟨_,rfl,rfl,rfl,rfl⟩,⟨_,rfl,rfl,rfl,rfl⟩,⟨_,rfl,rfl,rfl,_,rfl,_,_,rfl,rfl,_,_,rfl,rfl,_,_,rfl,rfl,_,_,rfl,⟨rfl,rfl⟩,_,_,rfl,⟨rfl,rfl⟩,_,_,rfl,⟨rfl,rfl⟩,rfl⟩,⟨_,rfl,rfl,rfl,_,rfl,Dc _ _ _ [.Ad,i64 0, .Ad, .int .u64 0, .Ad]⟩,trivial⟩
 have m1:¬ (i:Int)<((AY ds ds).length:Nat):=m1
 have bV:i=(AY ds ds).length:=by omega
 subst bV
 rw [Ar (qN _)] at i2 i3
 rw [<- i2,<- i3]
 have hdl:nd.length<=8:=by rw [i2,qB];omega
 refine⟨Nat × List (List PV × PV) × List Ut,fun x=>[(2, .ptr 0 0 0),(5, .ptr 1 0 0),(6, .ptr 5 0 0),(7, .ptr 5 0 1),(110, .p (Dw ds)),(111, .p (i64 ds.length)),(112, .p (i64 x.1))],fun x=>⟨9,MkS.L ⟨ds,X,(AY ds ds).map Mb.name,eb,es,x.2.1,G,dec,nd,x.2.2⟩⟩,
  fun x=>x.1<=ds.length/\Ew eb es x.2.1/\x.2.2=((ds.take x.1).filter fun d=>decide (d.kind=5)).map (G5 (AY ds ds)),fun x=>ds.length - x.1,?_,?_⟩
 ·refine⟨(0,en,[]),MJq,AA [] [] [] rfl ⟨MCW,MBt,MBW,MC,rfl,qH (fun n:Nat=>i64 n) hds.symm,rfl,trivial⟩ ?_ rfl⟩
  exact MB0
 rintro⟨i,nX,ut⟩ ⟨i1,dQ,j2⟩
 simp only [] at i1 dQ j2
 have sJ:ut.length<=30:=by
  rw [j2,qB]
  have:=xH (fun d:De=>decide (d.kind=5)) (ds.take i)
  rw [qj] at this;omega
 refine qA (fun m2=>?_) (fun m2=>?_)
 rotate_left
 ·have m2:¬ (i:Int)<(ds.length:Nat):=m2
  rw [Ar ME] at j2
  have j3:ut.map Ut.cells=(ds.filter fun d=>decide (d.kind=5)).map fun d=>(G5 (AY ds ds) d).cells:=by rw [j2,kr];rfl
  refine Gy (.agg [strs ((AY ds ds).map Mb.name),i64 G, .Ai 3 nd, .int .u64 (dec:Nat), .Ai 2 (ut.map Ut.cells)]) (i64 0) rfl ?_ rfl (by rw [j3])
  exact⟨_,rfl,_,_,rfl,rfl,_,_,rfl,rfl,_,_,rfl,⟨_,rfl,MHe,AB rfl⟩,_,_,rfl,rfl,_,_,rfl,⟨_,rfl,MJQ,AB MBV⟩,rfl⟩
 have m2:(i:Int)<(ds.length:Nat):=m2
 have hi:i<ds.length:=by omega
 have AO:=Fj hi
 have Ch:((ds.take (i+1)).filter fun d=>decide (d.kind=5)).map (G5 (AY ds ds))=ut++(if (ds.getD i Aj).kind=5 then [G5 (AY ds ds) (ds.getD i Aj)] else []):=by
  rw [AU Aj hi,xC,qX,<- j2]
  congr 1
  by_cases e:(ds.getD i Aj).kind=5
  ·rw [qM e,jK (by exact qE e)];rfl
  ·rw [qG e,xR (by rw [qF e];decide)];rfl
 have hP:=aC0 h X ((AY ds ds).map Mb.name) hT hi 0 MCb dQ
 have oJ:=fun e5 Kw bP=>aIM h X ((AY ds ds).map Mb.name) (en:=Kw) hT hi (.inr e5) 0 MCb bP (Dn (AY ds ds) (ds.getD i Aj).refs 0)
 have hNd:=Ii.nds h hX (ds.getD i Aj).refs 0
 have hp8:(Dn (AY ds ds) (ds.getD i Aj).refs 0).length<=8:=by
  have:=xH (fun i'=>(ds.getD i Aj).refs.any fun r=>pz ((AY ds ds).getD i' FO) r 0) (List.range (AY ds ds).length)
  exact MKN
 have XG:(ds.getD i Aj).kind=5->(ds.getD i Aj).cases.length<=12:=fun e=>(h.few hi (.inr e)).2
 have BF:(ds.getD i Aj).kind=5->∀ c∈(ds.getD i Aj).cases,1<=c.Ah.length:=fun e c hc=>(h.case hi (.inr e) hc).2.2.1
 have hex:(ds.getD i Aj).kind=5->∀ vals,∃ c∈(ds.getD i Aj).cases,BM (AY ds ds) 0 vals c.cond=true:=fun e vals=>by
  obtain⟨c,hc,n,rel,val,r,st,e⟩:=h.last hi (.inr e)
  exact MIc
 have hrw:DU (AY ds ds) (ds.getD i Aj).cases 0 (Dn (AY ds ds) (ds.getD i Aj).refs 0) (DV (AY ds ds).length)=(FE (fun i=>(((AY ds ds).getD i FO).d.n).toNat) (Dn (AY ds ds) (ds.getD i Aj).refs 0) (DV 8)).map (F8 (AY ds ds) (ds.getD i Aj).cases 0):=by
  exact MIs
 rw [G5,hrw] at Ch
 clear hrw
 generalize Dn (AY ds ds) (ds.getD i Aj).refs 0=PA at hP oJ hNd hp8 Ch
 generalize ds.getD i Aj=d at AO hP oJ XG BF hex Ch
 obtain⟨dk,dn,AQ,Ab,AJ,AZ⟩:=d
 simp only [] at hP oJ XG BF hex Ch
 refine⟨_,MAR,?_⟩
 refine And.intro (fun k5=>?_) (fun k5=>?_)
 rotate_left
 ·have k5:¬ dk=5:=k5
  rw [qG k5,qU] at Ch
  refine MAs ?_
  refine⟨(i+1,nX,ut),⟨by show i+1<=ds.length;omega,dQ,Ch.symm⟩,AA [] [] [] rfl (sk) ?_ rfl,MJ8⟩
  exact MB0
 have k5:dk=5:=k5
 rw [qM k5] at Ch
 refine hP.holds.BB [] [(0,1),(1,2),(2,3),(3,4)] rfl (sk) (sk) fun e0 H0 hq=>?_
 obtain⟨en2,hN2,rfl,rfl⟩:=hq
 refine⟨rfl,_,⟨10,(4,nkO en2)::(3,FK es)::(2,FK eb)::(1,bdO ds X ((AY ds ds).map Mb.name) 2 3 4)::(9,Bl ⟨dk,dn,AQ,Ab,AJ,AZ⟩)::(7,nP ut)::(6,nO nd)::(5,oK ((AY ds ds).map Mb.name) nd.length ut.length G (dec:Nat))::[(0,zgO)]⟩,rfl,rfl,?_⟩
 refine(oJ k5 en2 hN2).holds.BB [] [(0,1),(1,2),(2,3),(3,4)] rfl (sk) (sk) fun e0 H0 hq=>?_
 obtain⟨en3,fs,hN3,Gn,rfl,rfl⟩:=hq
 refine⟨rfl,_,⟨12,(11,Z9)::(4,nkO en3)::(3,FK es)::(2,FK eb)::(1,bdO ds X ((AY ds ds).map Mb.name) 2 3 4)::(10,(bU PA).o0)::(9,Bl ⟨dk,dn,AQ,Ab,AJ,AZ⟩)::(7,nP ut)::(6,nO nd)::(5,oK ((AY ds ds).map Mb.name) nd.length ut.length G (dec:Nat))::[(0,zgO)]⟩,rfl,rfl,?_⟩
 refine NN ?_
 intro σ' ps ac bd e1 e2 e3 e4
 refine aME (bU PA) ⟨ds,X,(AY ds ds).map Mb.name,eb,es,en3,G,dec,nd,ut⟩ ⟨Tryz.f13.ntmps,σ',ps,ac,bd⟩ [(9,Bl ⟨dk,dn,AQ,Ab,AJ,AZ⟩),(7,nP ut),(6,nO nd),(5,oK ((AY ds ds).map Mb.name) nd.length ut.length G (dec:Nat)),(0,zgO)] MFP hNd hp8 (AY ds ds) 0 ⟨dk,dn,AQ,Ab,AJ,AZ⟩ Gn (XG k5) (hex k5) (fun Ah=>i64 (Ah.getD 0 0)) _ _ _ ?_ ?_
 ·intro xs hxs
  obtain⟨w,hw⟩:∃ w:List Int,w=((FE (fun i=>(((AY ds ds).getD i FO).d.n).toNat) PA (DV 8)).map (F8 (AY ds ds) AZ 0)).map fun w=>w.getD 0 0:=MX
  rw [<- hw] at Ch
  have hxw:xs=w.map i64:=by rw [hxs,hw,kr,kr];rfl
  clear hxs hw
  subst hxw
  refine AR aPi MK ?_
  refine⟨sk,?_⟩
  refine And.intro MO (Exists.intro _ (And.intro rfl ?_))
  refine Or.inl ⟨[14],[[EZ PA,ints w]],rfl,⟨_,_,rfl,⟨_,_,rfl,rfl,_,_,rfl,⟨_,rfl,by show 0+(w.map i64).length<=(w.map i64).length;omega,AB rfl⟩,rfl⟩,rfl⟩,?_⟩
  refine⟨MJQ,ut.map Ut.cells,AB MBV,by show(ut.length+1) * 48<=140737488355328;omega,(ut++[Ut.mk PA w]).map Ut.cells,MHf,?_⟩
  refine MAs ?_
  refine⟨(i+1,en3,ut++[Ut.mk PA w]),⟨by show i+1<=ds.length;omega,hN3,Ch.symm⟩,O9.aOd 12 rfl (AA [] [(7,16)] [] rfl (sk) ?_ rfl),MJ8⟩
  exact⟨MIe,MFO,⟨_,rfl,rfl,rfl,_,rfl,_,_,rfl,rfl,_,_,rfl,rfl,_,_,rfl,rfl,_,_,rfl,rfl,_,_,rfl,qH (fun j:Nat=>AV.sl 16 2 0 j) (Ak ut _).symm,rfl⟩,MCx,MCv,MAv,MEi,MBo,trivial⟩
 ·intro Ah xs vals r2 K hxl F4 hK
  have aOn:1<=Ah.length:=by
   obtain⟨c,hc,rfl⟩:=F4
   exact BF k5 c hc
  have hc0:=nT (l:=Ah) (k:=0) ME
  generalize Ah.getD 0 0=z at hc0 hK
  subst e1 e2 e3 e4
  refine GZ rfl rfl rfl ?_
  refine Er [] ⟨22,iL (bU PA) ⟨ds,X,(AY ds ds).map Mb.name,eb,es,en3,G,dec,nd,ut⟩ _ r2 .busy .busy 21 (xs++[i64 z]) vals⟩ aPj MK ?_ hK
  refine⟨_,⟨by omega,_,hc0,rfl⟩,?_⟩
  refine⟨MHd,xs,AB rfl,MJl,xs++[i64 z],rfl,?_⟩
  refine AA [] [(21,21)] [] rfl trivial ?_ rfl
  exact⟨MAv,
  MBo,MLE,MCv,MJY,MEp,MCV,MAv,MCy,⟨_,rfl,rfl,rfl,_,rfl,_,_,rfl,rfl,_,_,rfl,qH (fun j:Nat=>AV.sl 21 1 0 j) (Ak xs _).symm,rfl⟩,
  ⟨_,rfl,rfl,rfl,rfl⟩,⟨_,rfl,rfl,rfl,rfl⟩,⟨_,rfl,rfl,rfl,_,rfl,_,_,rfl,rfl,_,_,rfl,rfl,_,_,rfl,rfl,_,_,rfl,rfl,_,_,rfl,rfl,rfl⟩,⟨_,rfl,rfl,rfl,rfl⟩,⟨_,rfl,rfl,rfl,rfl⟩,⟨_,rfl,rfl,rfl,rfl⟩,⟨_,rfl,rfl,rfl,_,rfl,_,_,rfl,rfl,_,_,rfl,rfl,_,_,rfl,rfl,_,_,rfl,⟨rfl,rfl⟩,_,_,rfl,⟨rfl,rfl⟩,_,_,rfl,⟨rfl,rfl⟩,rfl⟩,⟨_,rfl,rfl,rfl,_,rfl,Dc _ _ _ [.Ad,i64 0, .Ad, .int .u64 0, .Ad]⟩,trivial⟩
theorem Jo (ds:List De) (hb:NH ds):Pure cx 13 [JV ds] (·=.ret (L6 ds)):=by
 by_cases hs:Bj ds=0
 ·rw [L6,qM hs]
  exact(aFC ds (EY hs) hb).nil ⟨_,rfl,_,_,rfl,⟨_,rfl,aBQ ds⟩,_,_,rfl,rfl,rfl⟩
 ·have hC:=wO ds hb
  rw [L6,qG hs]
  generalize Bj ds=e at hC hs
  refine(?_:Pure cx 13 [JV ds] (·=.ret [.agg [.Ad,i64 0, .Ad, .int .u64 0, .Ad],i64 e])).nil ⟨_,rfl,_,_,rfl,⟨_,rfl,aKO⟩,_,_,rfl,rfl,rfl⟩
  refine pure_of_vc Tryz.func13 rfl rfl rfl ?_
  refine hC.eq rfl ?_
  refine MGy ?_
  exact Gy (.agg [.Ad,i64 0, .Ad, .int .u64 0, .Ad]) (i64 e) rfl (sk) rfl rfl
theorem aFZ (ds:List De) (hb:NH ds):Pure cx 15 [JV ds] (·=.ret (aJN ds)):=by
 have hM:=Jo ds hb
 rw [L6] at hM
 rw [aJN]
 by_cases hs:Bj ds=0
 ·rw [qM hs] at hM ⊢
  have aPd:=(EY hs).len.2
  generalize Ap ds=g at hM ⊢
  obtain⟨g1,g2,g3,g4,g5⟩:=g
  have hds:(ds.map De.cells).length=ds.length:=qB ..
  have main:Pure cx 15 [JV ds] fun r=>(EN ds=true/\r=.ret [.agg (Nt.mk g2 g3).cells,i64 0])∨(EN ds=false/\r=.ret [.agg [i64 0, .Ad],i64 2]):=by
   refine pure_of_vc Tryz.func15 rfl rfl rfl ?_
   refine hM.eq rfl ?_
   refine MJ ?_
   refine⟨Nat,fun k=>[(2, .ptr 0 0 0),(4, .ptr 1 0 0),(18, .p (Dw ds)),(19, .p (i64 ds.length)),(20, .p (i64 k))],fun _=>⟨2,[(1,grO ⟨g1,g2,g3,g4,g5⟩),(0,⟨56,false, .bx [.p (i64 0), .p .Ad]⟩)]⟩,fun k=>k<=ds.length/\∀ d∈ds.take k,¬ (d.kind=4∨d.kind=5),fun k=>ds.length - k,?_,?_⟩
   ·exact⟨0,⟨qL _,fun d hd=>by cases hd⟩,AA [] [(0,1),(1,2)] [] rfl ⟨MBW,MC,rfl,qH (fun n:Nat=>i64 n) hds.symm,rfl,trivial⟩ (sk) rfl⟩
   rintro k ⟨k1,k2⟩
   refine qA (fun m1=>?_) (fun m1=>?_)
   rotate_left
   ·have m1:¬ (k:Int)<(ds.length:Nat):=m1
    rw [Ar ME] at k2
    refine Gy (.agg (Nt.mk g2 g3).cells) (i64 0) rfl (sk) rfl (.inl ⟨?_,rfl⟩)
    rw [EN,qi]
    exact fun d hd=>qE (k2 d hd)
   have m1:(k:Int)<(ds.length:Nat):=m1
   have hk:k<ds.length:=by omega
   have AO:=Fj hk
   have Dy:=Aa Aj hk
   have Ch:=AU Aj hk
   generalize ds.getD k Aj=d at AO Dy Ch
   have Bt:d.kind=4∨d.kind=5->EN ds=false:=fun h=>by
    rw [<- qQ,EN,qi]
    intro h2
    have:=h2 d Dy
    rw [qJ] at this
    exact this h
   obtain⟨dk,dn,AQ,Ab,AJ,AZ⟩:=d
   simp only [] at Bt
   refine⟨_,MAR,?_⟩
   refine And.intro (fun e4=>?_) (fun e4=>?_)
   ·have e4:dk=4:=e4
    exact Gy (.agg [i64 0, .Ad]) (i64 2) rfl (sk) rfl (.inr ⟨Bt (.inl e4),rfl⟩)
   have e4:¬ dk=4:=e4
   refine And.intro (fun e5=>?_) (fun e5=>?_)
   ·have e5:dk=5:=e5
    exact Gy (.agg [i64 0, .Ad]) (i64 2) rfl (sk) rfl (.inr ⟨Bt (.inr e5),rfl⟩)
   have e5:¬ dk=5:=e5
   refine MAs ?_
   refine⟨k+1,⟨by omega,fun x hx=>?_⟩,AA [] [] [] rfl (sk) (sk) rfl,MC5⟩
   rw [Ch] at hx
   rcases qa.1 hx with hx | hx
   ·exact k2 x hx
   ·rw [qP.1 hx];exact fun h=>h.elim e4 e5
  refine main.weak fun r hr=>?_
  rcases hr with ⟨e,rfl⟩ | ⟨e,rfl⟩
  ·rw [e,qM rfl]
   exact⟨_,⟨_,rfl,_,_,rfl, .refl _,_,_,rfl, .refl _,rfl⟩,rfl⟩
  ·rw [e,qG ML]
   exact⟨_,⟨_,rfl,_,_,rfl,⟨_,rfl,aCs⟩,_,_,rfl, .refl _,rfl⟩,rfl⟩
 ·rw [qG hs] at hM ⊢
  generalize Bj ds=e at hM hs
  refine(?_:Pure cx 15 [JV ds] (·=.ret [.agg [i64 0, .Ad],i64 e])).nil ⟨_,rfl,_,_,rfl,⟨_,rfl,aCs⟩,_,_,rfl,rfl,rfl⟩
  refine pure_of_vc Tryz.func15 rfl rfl rfl ?_
  refine hM.eq rfl ?_
  refine MGy ?_
  exact Gy (.agg [i64 0, .Ad]) (i64 e) rfl (sk) rfl rfl
end Go.Proofs.YtkegmchjobphdaaGreatDoor
