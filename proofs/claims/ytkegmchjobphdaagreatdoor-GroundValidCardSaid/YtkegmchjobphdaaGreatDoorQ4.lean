/- Part 4 of the proof: Ys Yt Yu Yv Yw -/
import Derived.Test.YtkegmchjobphdaaGreatDoorQ3
namespace Go.Proofs.YtkegmchjobphdaaGreatDoor.Y
open Go
def look:List (Nat × Nat)->Nat->Nat
 | [],n=>n
 | (k,v)::r,n=>match Nat.beq k n with
  | true=>v
  | false=>look r n
def D8:List (Nat × Nat)->Nat->Option Nat
 | [],_=>none
 | (k,s)::r,n=>match Nat.beq k n with
  | true=>some s
  | false=>D8 r n
def CW (n0:Nat) (ps:List (Nat × Nat)) (N1 N n:Nat):Nat:=
 match Nat.blt n n0 with
 | true=>n
 | false=>match Nat.blt n N1 with
  | true=>look ps n
  | false=>n - N1+N
def aD3 (ρ:Nat->Nat):Fn->Fn
 | .yield l=>.yield (ρ l)
 | f=>f
def yOK (ni:List (Nat × Nat)):Fn->Bool
 | .yield l=>(D8 ni l).isNone
 | _=>true
section
variable (ρ:Nat->Nat) (ni:List (Nat × Nat)) (L:List (Nat × Ag))
def aGU:AV->Option (List AV)
 | .agg cs=>some cs
 | .p (.agg ps)=>some (ps.map .p)
 | _=>none
mutual
def U0:AV->AV->Prop
 | v, .p x=>GH L 5 v x
 | v, .ptr n i f=>D8 ni n=none/\v=.ptr (ρ n) i f
 | v, .Lx n i f=>D8 ni n=none/\v=.Lx (ρ n) i f
 | v, .sl n s off len=>match D8 ni n with
  | some s'=>s'=s/\off=0/\len=0/\v=.p .Ad
  | none=>v=.sl (ρ n) s off len
 | v, .mp n=>D8 ni n=none/\v=.mp (ρ n)
 | v, .fn f a b=>yOK ni f=true/\∃ a0 b0,U2 v=some (aD3 ρ f,a0,b0)/\GM a0 a/\GM b0 b
 | v, .iface t x=>∃ y,IU v=some (some (t,y))/\U0 y x
 | v, .agg cs=>∃ IM,aGU v=some IM/\GM IM cs
 | v, .GG vs=>∃ vs0,v=.GG vs0/\GM vs0 vs
 | v, .LC=>v=.LC
 | _, .junk=>True
def GM:List AV->List AV->Prop
 | l0,[]=>l0=[]
 | l0,v::vs=>∃ u us,l0=u::us/\U0 u v/\GM us vs
end
def Pf:List (List AV)->List (List AV)->Prop
 | l0,[]=>l0=[]
 | l0,v::vs=>∃ u us,l0=u::us/\GM ρ ni L u v/\Pf us vs
def aOb:Cn->Option (List AV)
 | .mx vs=>some vs
 | .pu xs=>some (xs.map .p)
 | _=>none
def aLy:Cn->Option (List (List AV))
 | .Gw vs=>some vs
 | .GN xs=>some (Cg xs)
 | _=>none
def bz (n0:Nat) (c0 c1:Cn):Prop:=
 match c1 with
 | .bx cs1=>∃ IM,c0=.bx IM/\GM ρ ni L IM cs1
 | .pu ys=>match c0 with
  | .pu xs=>xs=ys
  | .mx vs=>EJ (GH L 5) vs ys
  | _=>False
 | .GN OU=>match c0 with
  | .GN xss=>xss=OU
  | .Gw Ui=>J4 (GH L 5) Ui OU
  | _=>False
 | .mx p9=>∃ vs0,aOb c0=some vs0/\GM ρ ni L vs0 p9
 | .Gw p9=>∃ vs0,aLy c0=some vs0/\Pf ρ ni L vs0 p9
 | .lp _ _ lim _ _ _ _ _ dn=>c0=c1/\Nat.ble lim n0=true/\Nat.blt dn n0=true
 | .df=>c0=.df
 | .ms es=>c0=.ms es
 | .mk zs es=>c0=.mk zs es
 | .it s i=>c0=.it s i
def aAo (n0:Nat) (n:Nat) (o1:Ag):Prop:=
 match D8 ni n with
 | some s=>o1.fr=false/\(match o1.c with
  | .pu xs=>xs=[]/\s=1
  | .GN xs=>xs=[]
  | .mx xs=>xs=[]/\s=1
  | .Gw xs=>xs=[]
  | _=>False)
 | none=>∃ o0,Aq L (ρ n)=some o0/\o0.t=o1.t/\o0.fr=o1.fr/\bz ρ ni L n0 o0.c o1.c
def Uw (n0:Nat):List (Nat × Ag)->Prop
 | []=>True
 | (n,o)::r=>aAo ρ ni L n0 n o/\Uw n0 r
def lh (σ:Sg):List (Nat × AV)->Prop
 | []=>True
 | (k,v)::r=>U0 ρ ni L (σ k) v/\lh σ r
def YS:List AD->List AD->Prop
 | d0,[]=>d0=[]
 | d0, .fn g cap args::ds=>∃ aMi S9 r,d0=.fn g aMi S9::r/\GM ρ ni L aMi cap/\GM ρ ni L S9 args/\YS r ds
 | d0, .Le n::ds=>D8 ni n=none/\∃ r,d0=.Le (ρ n)::r/\YS r ds
def NL:List (Nat × Ag)->Bool
 | []=>true
 | (n,_)::r=>((D8 ni n).isSome || r.all (fun p=>(D8 ni p.1).isSome || Nat.beq p.1 n || !Nat.beq (ρ p.1) (ρ n))) && NL r
end
theorem JZ {ρ:Nat->Nat} {ni:List (Nat × Nat)} {L:List (Nat × Ag)}:∀ {b d:List AV} {a c:List AV},GM ρ ni L a b->GM ρ ni L c d->GM ρ ni L (a++c) (b++d)
 | [],d,a,c,h,k=>by grind [GM]
 | v::b,d,a,c,h,k=>by
  simp only [GM] at h
  obtain⟨z,zs,rfl,h1,h2⟩:=h
  simp only [kD,GM]
  exact⟨z,zs++c,rfl,h1,JZ h2 k⟩
theorem fD {ρ:Nat->Nat} {ni:List (Nat × Nat)} {L:List (Nat × Ag)} (len:∀ {vs p9:List AV},GM ρ ni L vs p9->vs.length=p9.length):∀ {b a:List (List AV)},Pf ρ ni L a b ->
  a.length=b.length/\(∀ {s:Nat},(∀ cs∈a,cs.length=s)->∀ cs∈b,cs.length=s)/\GM ρ ni L a.flatten b.flatten
 | [],a,h=>by simp only [Pf] at h;subst h;exact⟨rfl,fun _ _ h=>by simp at h,by simp [GM]⟩
 | v::b,a,h=>by
  simp only [Pf] at h
  obtain⟨z,zs,rfl,h1,h2⟩:=h
  obtain⟨i1,i2,i3⟩:=fD len h2
  refine⟨by simp [i1],fun hs y hy=>?_,by grind [JZ]⟩
  rcases qw.1 hy with rfl | hy
  ·grind
  simp_all
def aD5 (n0 N1:Nat) (ni:List (Nat × Nat)):Bool:=ni.all fun p=>Nat.ble n0 p.1 && Nat.blt p.1 N1
section
variable {C:Cx}
theorem aEB {ni:List (Nat × Nat)} {n s:Nat} (h:D8 ni n=some s):(n,s)∈ni:=by
 induction ni with
 | nil=>simp [D8] at h
 | cons p r ih=>
  obtain⟨k,x⟩:=p
  simp only [D8] at h
  split at h
  ·simp_all
  simp_all
theorem Kb {ρ:Nat->Nat} {ni:List (Nat × Nat)}:∀ {l:List (Nat × Ag)},NL ρ ni l=true->∀ {n m:Nat} {o p:Ag},(n,o)∈l->(m,p)∈l->n ≠ m->D8 ni n=none->D8 ni m=none->ρ n ≠ ρ m
 | [],_,n,m,o,p,hn,_,_,_,_=>by simp at hn
 | (k,x)::r,h,n,m,o,p,hn,hm,ES,h1,h2=>by
  simp only [NL,qC,kW,qi,ku] at h
  have key:∀ (q:Nat × Ag),q∈r->q.1 ≠ k->D8 ni q.1=none->D8 ni k=none->ρ q.1 ≠ ρ k:=by
   intro q hq hqk GA hk1 e
   rcases h.1 with h3 | h3
   ·simp_all
   ·rcases h3 q hq with (h4 | h4) | h4
    ·simp_all
    ·simp_all
    simp_all
  rcases qw.1 hn with e1 | hn' <;> rcases qw.1 hm with e2 | hm'
  ·injection e1 with e1 _;injection e2 with e2 _;exact absurd (e1.trans e2.symm) ES
  ·grind
  ·grind
  ·exact Kb h.2 hn' hm' ES h1 h2
def Gm.see (Γ:Gm) (ρ:Nat->Nat) (ni:List (Nat × Nat)):Gm:=⟨fun m=>match D8 ni m with | some s=>some ⟨0,s,0,true⟩ | none=>Γ.nm (ρ m),Γ.fz⟩
variable {Γ:Gm} {H:Hp} {w:World} {ρ:Nat->Nat} {ni:List (Nat × Nat)}
theorem aAq {v:AV} {v':Value} (hv:VR Γ v v') {cs:List AV} (h:aGU v=some cs):∃ Dt,v'=.agg Dt/\CX Γ cs Dt.toList:=by
 cases v with
 | agg c=>grind [aGU,VR]
 | p x=>
  cases x <;> simp only [aGU,reduceCtorEq,qo] at h
  subst h
  simp only [VR,VP] at hv
  obtain⟨Dt,h1,h2⟩:=hv
  exact⟨Dt,h1,CJ.2 h2⟩
 | _=>simp [aGU] at h
mutual
theorem NR (hR:R C Γ H w):∀ (v1 v:AV) (v':Value),U0 ρ ni H.l v v1->VR Γ v v'->VR (Γ.see ρ ni) v1 v'
 | .p x,v,v',hs,hv=>by
  simp only [U0] at hs
  simp only [VR]
  exact Dj hR 5 v x v' hs hv
 | .ptr n i f,v,v',hs,hv=>by
  simp only [U0] at hs
  obtain⟨hni,rfl⟩:=hs
  exact MHV
 | .Lx n i f,v,v',hs,hv=>by
  simp only [U0] at hs
  obtain⟨hni,rfl⟩:=hs
  exact MHV
 | .sl n s off len,v,v',hs,hv=>by
  simp only [U0] at hs
  split at hs
  ·rename_i s' e
   obtain⟨rfl,rfl,rfl,rfl⟩:=hs
   simp only [VR,VP] at hv ⊢
   subst hv
   exact⟨⟨0,s',0,true⟩,by simp only [Gm.see,e],rfl, .inl MFP⟩
  ·rename_i e
   subst hs
   simp only [VR] at hv ⊢
   obtain⟨q,hq,h2⟩:=hv
   exact⟨q,by grind [Gm.see],h2⟩
 | .mp n,v,v',hs,hv=>by
  simp only [U0] at hs
  obtain⟨hni,rfl⟩:=hs
  simp only [VR] at hv ⊢
  grind [Gm.see]
 | .fn f a b,v,v',hs,hv=>by
  simp only [U0] at hs
  obtain⟨hy,a0,b0,hf,ha,hb⟩:=hs
  obtain⟨f',bf,Dt,rfl,h1,h2,h3⟩:=Kc hv hf
  simp only [VR]
  refine⟨f',bf,Dt,rfl,?_,Dk hR a a0 _ ha h2,Dk hR b b0 _ hb h3⟩
  cases f <;> simp only [aD3,FR] at h1 ⊢ <;> first | exact h1 | skip
  grind [yOK,Gm.see]
 | .iface t x,v,v',hs,hv=>by
  simp only [U0] at hs
  obtain⟨y,h1,h2⟩:=hs
  obtain⟨u,rfl,hu⟩:=(JO hv).2 _ _ h1
  simp only [VR]
  exact⟨u,rfl,NR hR x y u h2 hu⟩
 | .agg cs,v,v',hs,hv=>by
  simp only [U0] at hs
  obtain⟨IM,h1,h2⟩:=hs
  obtain⟨Dt,rfl,h3⟩:=aAq hv h1
  simp only [VR]
  exact MKx
 | .GG cs,v,v',hs,hv=>by
  simp only [U0] at hs
  obtain⟨IM,rfl,h2⟩:=hs
  simp only [VR] at hv ⊢
  obtain⟨Dt,rfl,h3⟩:=hv
  exact MKx
 | .LC,v,v',hs,hv=>by
  grind [U0,VR]
 | .junk,_,_,_,_=>by simp only [VR]
theorem Dk (hR:R C Γ H w):∀ (p9 vs:List AV) (vs':List Value),GM ρ ni H.l vs p9->CX Γ vs vs'->CX (Γ.see ρ ni) p9 vs'
 | [],vs,vs',hs,hv=>by
  simp only [GM] at hs
  subst hs
  exact hv
 | v1::p9,vs,vs',hs,hv=>by
  simp only [GM] at hs
  obtain⟨u,us,rfl,h1,h2⟩:=hs
  simp only [CX] at hv ⊢
  obtain⟨u',Rk,rfl,h3,h4⟩:=hv
  exact⟨u',Rk,rfl,NR hR v1 u u' h1 h3,Dk hR p9 us Rk h2 h4⟩
end
theorem TI {n0:Nat} {L:List (Nat × Ag)}:∀ {l:List (Nat × Ag)},Uw ρ ni L n0 l->∀ {n:Nat} {o:Ag},Aq l n=some o->aAo ρ ni L n0 n o
 | [],_,n,o,hn=>by simp [Aq] at hn
 | (k,p)::r,h,n,o,hn=>by
  simp only [Uw] at h
  by_cases e:k=n
  ·subst e;rw [D7] at hn;injection hn with hn;subst hn;exact h.1
  ·rw [Eb e] at hn
   exact TI h.2 hn
theorem R.see {n0:Nat} {H1:Hp} (hR:R C Γ H w) (hs:Uw ρ ni H.l n0 H1.l) (hi:∀ {n m:Nat} {o p:Ag},(n,o)∈H1.l->(m,p)∈H1.l->n ≠ m->D8 ni n=none->D8 ni m=none->ρ n ≠ ρ m) (hn:aD5 n0 H1.next ni=true) (aQZ:∀ n,n<n0->ρ n=n) (aQa:n0<=H1.next) (Ea:∀ n,H1.next<=n->H.next<=ρ n) :
  Au C n0 Γ H w (Γ.see ρ ni) H1 w:=by
 have aMj:∀ {n s},D8 ni n=some s->n0<=n/\n<H1.next:=by
  intro n s h
  have:=qi.1 hn _ (aEB h)
  simp only [qC] at this
  exact⟨qp this.1,MAe⟩
 have hlo:∀ m,m<n0->D8 ni m=none:=by
  intro m hm
  cases h:D8 ni m with
  | none=>rfl
  | some s=>grind
 have aQb:∀ m,m<n0->(Γ.see ρ ni).nm m=Γ.nm m:=by
  intro m hm
  simp only [Gm.see,hlo m hm,aQZ m hm]
 have aSE:∀ l,l<=n0->(Γ.cut l).le ((Γ.see ρ ni).cut l):=by
  intro l hl
  refine⟨fun m q hq=>?_,FW.le_refl _⟩
  simp only [Gm.cut] at hq ⊢
  split at hq
  ·rename_i e
   have:m<l:=MKX
   grind
  ·cases hq
 -- objects that were there
 have old:∀ {n o q},Aq H1.l n=some o->D8 ni n=none->(Γ.see ρ ni).nm n=some q->∃ o0,Aq H.l (ρ n)=some o0/\o0.t=o.t/\o0.fr=o.fr/\bz ρ ni H.l n0 o0.c o.c/\Γ.nm (ρ n)=some q:=by
  intro n o q h1 h2 h3
  have:=TI hs h1
  unfold aAo at this
  rw [h2] at this
  simp only at this
  obtain⟨o0,k1,k2,k3,k4⟩:=this
  exact⟨o0,k1,k2,k3,k4,by simpa only [Gm.see,h2] using h3⟩
 have nn:∀ {n q},(Γ.see ρ ni).nm n=some q->q.nl=false->(∃ s,D8 ni n=some s)->False:=by
  rintro n q h1 h2 ⟨s,h3⟩
  simp only [Gm.see,h3,qo] at h1
  subst h1
  cases h2
 have XX:∀ {n q},(Γ.see ρ ni).nm n=some q->q.nl=false->D8 ni n=none:=by
  intro n q h1 h2
  cases h:D8 ni n with
  | none=>rfl
  | some s=>simp_all
 refine⟨⟨hR.Jq,fun n q8=>?_,hR.Io,fun n o ho=>?_,fun n o q ho hf hq BF=>?_,fun n o m p q q' ho hp ES hq Gp hf BF PZ=>?_⟩,aQb,aQa,⟨rfl,rfl,rfl,qN _,fun _ _ _=>rfl,fun k hk=>.inr ?_,FW.le_refl _,fun k a hk=>.inl hk⟩⟩
 ·have:D8 ni n=none:=by
   cases h:D8 ni n with
   | none=>rfl
   | some s=>grind
  simp only [Gm.see,this]
  exact hR.fresh _ (Ea n q8)
 ·have OQ:=TI hs ho
  unfold aAo at OQ
  split at OQ
  ·rename_i s e
   refine⟨⟨0,s,0,true⟩,by simp only [Gm.see,e],?_⟩
   obtain⟨t,fr,c⟩:=o
   obtain⟨aQc,hc⟩:=OQ
   cases c with
   | pu xs=>exact(BA (o:=⟨t,fr, .pu xs⟩) rfl).2 (.inl ⟨rfl,hc.1,hc.2⟩)
   | GN xs=>simp only at hc;subst hc;exact(BA (o:=⟨t,fr, .GN []⟩) rfl).2 (.inl MKR)
   | mx xs=>exact(BA (o:=⟨t,fr, .mx xs⟩) rfl).2 (.inl ⟨rfl,hc.1,hc.2⟩)
   | Gw xs=>simp only at hc;subst hc;exact(BA (o:=⟨t,fr, .Gw []⟩) rfl).2 (.inl MKR)
   | bx=>exact hc.elim
   | lp=>exact hc.elim
   | df=>exact hc.elim
   | ms=>exact hc.elim
   | mk=>exact hc.elim
   | it=>exact hc.elim
  ·rename_i e
   obtain⟨o0,k1,k2,k3,k4⟩:=OQ
   obtain⟨q,hq,Em⟩:=hR.Dz _ _ k1
   refine⟨q,by simp only [Gm.see,e];exact hq,?_⟩
   obtain⟨t0,fr0,c0⟩:=o0
   obtain⟨t,fr,c⟩:=o
   simp only at k2 k3 k4
   subst k2;subst k3
   -- cells
   have cells:BV c0=true->BV c=true->(NM c0->NM c)->(∀ s tc,DN s tc c0->DN s tc c)->(∀ us,CX Γ (flat c0) us->CX (Γ.see ρ ni) (flat c) us)->Cv C.P (Γ.see ρ ni) w q ⟨t0,fr0,c⟩:=by
    intro h1 h2 h3 h4 h5
    rw [BA (o:=⟨t0,fr0,c⟩) h2]
    rcases (BA (o:=⟨t0,fr0,c0⟩) h1).1 Em with ⟨g1,g2,g3⟩ | ⟨g0,us,rest,z,g1,g2,g3,g3',g4,g5,g6,g7,g8⟩
    ·simp_all
    ·exact .inr ⟨g0,us,rest,z,g1,g2,g3,g3',g4,h5 us g5,g6,h4 _ _ g7,g8⟩
   have len:∀ {vs p9:List AV},GM ρ ni H.l vs p9->vs.length=p9.length:=by
    intro vs p9
    induction p9 generalizing vs with
    | nil=>intro h;simp only [GM] at h;subst h;rfl
    | cons x xs ih=>intro h;simp only [GM] at h;grind
   have IV:∀ {vs:List AV} {ys:List PV},EJ (GH H.l 5) vs ys->vs.length=ys.length:=by
    intro vs
    induction vs with
    | nil=>intro ys h;simp only [EJ] at h;subst h;rfl
    | cons x xs ih=>intro ys h;simp only [EJ] at h;grind
   cases c with
   | bx cs1=>
    obtain⟨IM,rfl,h2⟩:=k4
    refine cells rfl rfl (fun h=>h) (fun s tc h=>⟨by rw [<- len h2];exact h.1,h.2⟩) fun us PD=>Dk hR _ _ _ h2 PD
   | pu ys=>
    simp only [bz] at k4
    split at k4 <;> try exact k4.elim
    ·exact MGz
    ·refine cells rfl rfl (fun h=>?_) (fun s tc h=>h) fun us PD=>CJ.2 (FJ (Dj hR 5) k4 PD)
     grind [NM]
   | GN OU=>
    simp only [bz] at k4
    split at k4 <;> try exact k4.elim
    ·exact MGz
    ·obtain⟨r1,r2⟩:=Qb k4
     refine cells rfl rfl (fun h=>?_) (fun s tc h=>r2 h) fun us PD=>CJ.2 (FJ (Dj hR 5) (OV k4) PD)
     grind [NM]
   | mx p9=>
    obtain⟨vs0,h1,h2⟩:=k4
    have hl:=len h2
    cases c0 <;> simp only [aOb,qo,reduceCtorEq] at h1
    ·exact MGX
    ·exact MGX
   | Gw p9=>
    obtain⟨vs0,h1,h2⟩:=k4
    obtain⟨l1,l2,l3⟩:=fD len h2
    cases c0 <;> simp only [aLy,qo,reduceCtorEq] at h1
    ·subst h1
     refine cells rfl rfl (fun h=>?_) (fun s tc h=>l2 (Ja h)) fun us PD=>Dk hR _ _ _ l3 (by rw [OW];exact PD)
     simp only [NM] at h ⊢
     subst h
     exact qY l1.symm
    ·subst h1
     refine cells rfl rfl (fun h=>?_) (fun s tc h=>l2 h) fun us PD=>Dk hR _ _ _ l3 PD
     grind [NM]
   | lp st E5 lim N sg ps Fq bd dn=>
    obtain⟨rfl,h2,h3⟩:=k4
    simp only [Cv] at Em ⊢
    obtain⟨g0,g1,fn,tm,qd,g2,g3,g4,g5⟩:=Em
    have h2:=qp h2
    have h3:dn<n0:=by simpa using h3
    grind [EF]
   | df=>
    exact MGU
   | ms=>
    exact MGU
   | mk=>
    exact MGU
   | it=>
    exact MGU
 ·have hni:=XX hq BF
  obtain⟨o0,k1,k2,k3,k4,k5⟩:=old ho hni hq
  exact hR.own _ o0 q k1 (by rw [k3];exact hf) k5 BF
 ·have hni:=XX hq BF
  have aOc:=XX Gp PZ
  obtain⟨o0,k1,k2,k3,k4,k5⟩:=old ho hni hq
  obtain⟨p0,j1,j2,j3,j4,j5⟩:=old hp aOc Gp
  exact hR.apart _ o0 _ p0 q q' k1 j1 (hi (Yc ho) (Yc hp) ES hni aOc) k5 j5 (by rw [k3];exact hf) BF PZ
 ·obtain⟨n,o,q,h1,h2,h3,h4,rfl⟩:=hk
  have hni:=XX h3 h4
  obtain⟨o0,k1,k2,k3,k4,k5⟩:=old h1 hni h3
  exact⟨_,o0,q,k1,by rw [k3];exact h2,k5,h4,rfl⟩
theorem Rv {df0:Option (List Deferred)} (hR:R C Γ H w):∀ (PG ds:List AD) (dd:List Deferred),YS ρ ni H.l ds PG->Uh df0 Γ ds dd->Uh df0 (Γ.see ρ ni) PG dd
 | [],ds,dd,hs,hd=>by simp only [YS] at hs;subst hs;exact hd
 | .fn g cap args::PG,ds,dd,hs,hd=>by
  simp only [YS] at hs
  obtain⟨aMi,S9,r,rfl,h1,h2,h3⟩:=hs
  simp only [Uh,DR] at hd ⊢
  obtain⟨u,us,rfl,⟨FZ,args',rfl,k1,k2⟩,k3⟩:=hd
  exact⟨_,us,rfl,⟨FZ,args',rfl,Dk hR _ _ _ h1 k1,Dk hR _ _ _ h2 k2⟩,Rv hR PG r us h3 k3⟩
 | .Le n::PG,ds,dd,hs,hd=>by
  simp only [YS] at hs
  obtain⟨hni,r,rfl,h3⟩:=hs
  simp only [Uh,DR] at hd ⊢
  obtain⟨u,us,rfl,⟨k0,q,k1,rfl⟩,k3⟩:=hd
  exact⟨_,us,rfl,⟨k0,q,by grind [Gm.see],rfl⟩,Rv hR PG r us h3 k3⟩
theorem Ye (hR:R C Γ H w) {σ:Sg} {a:Act} (h:∀ t,VR Γ (σ t) (a.tmps.getD t undef)):∀ {l:List (Nat × AV)},lh ρ ni H.l σ l->∀ t,VR (Γ.see ρ ni) (Bh (fun _=>.junk) l t) (a.tmps.getD t undef)
 | [],_,t=>XY _ _
 | (k,v)::r,hs,t=>by
  simp only [lh] at hs
  simp only [Bh]
  by_cases e:t=k
  ·grind [Jb,NR]
  ·rw [E9 _ _ e]
   exact Ye hR h hs.2 t
theorem YU {n0 N1 N n:Nat} {ps:List (Nat × Nat)} (h:n<n0):CW n0 ps N1 N n=n:=by
 unfold CW
 rw [show Nat.blt n n0=true from MIw]
theorem TF {n0 N1 N n:Nat} {ps:List (Nat × Nat)} (h0:n0<=N1) (h:N1<=n):CW n0 ps N1 N n=n - N1+N:=by
 unfold CW
 rw [show Nat.blt n n0=false by rw [xZ];intro e;have:n<n0:=MKX;omega]
 rw [show Nat.blt n N1=false by rw [xZ];simp_all]
theorem AA {n0 N:Nat} {σ:Sg} {ds PG:List AD} {H H1:Hp} {l:List (Nat × AV)} (fs:List Nat) (ps ni:List (Nat × Nat))
  (hb:(CV H.l fs && Nat.ble n0 H1.next && aD5 n0 H1.next ni && NL (CW n0 ps H1.next H.next) ni H1.l)=true)
  (hS:lh (CW n0 ps H1.next H.next) ni (marks H.l fs) σ l) (hH:Uw (CW n0 ps H1.next H.next) ni (marks H.l fs) n0 H1.l) (hD:YS (CW n0 ps H1.next H.next) ni (marks H.l fs) ds PG) :
  O9 C n0 N σ ds H (Bh (fun _=>.junk) l) PG H1:=by
 rintro r B Γ w a hn hR ⟨df0,hSR,hX⟩
 simp only [qC] at hb
 obtain⟨⟨⟨b1,b2⟩,b3⟩,b4⟩:=hb
 have b2:=qp b2
 obtain⟨BU,e1,hL⟩:=hR.mark b1
 have aMk:=hSR.mono (hL.le hR)
 have lq:=R.see (H1:=H1) (ρ:=CW n0 ps H1.next H.next) hL.1 hH (Kb b4) b3 (fun n h=>YU h) b2 (fun n h=>by rw [TF b2 h];show H.next<=_;omega)
 have hT:=(hL.mono hn).trans lq
 exact⟨_,⟨df0,⟨aMk.size,Ye hL.1 aMk.tm hS,Rv hL.1 _ _ _ hD aMk.df⟩,hX.tr hT.2.2.2⟩,hT⟩
end
end Go.Proofs.YtkegmchjobphdaaGreatDoor.Y
namespace Go.Proofs.YtkegmchjobphdaaGreatDoor.Y
open Go
inductive PEnd where
 | ret (vs:List PV)
 | F7 (v:PV)
def Rl:PEnd->AE
 | .ret [x]=>.returned (.p x)
 | .ret xs=>.returned (.GG (xs.map .p))
 | .F7 x=>.panicked [⟨.p x,false⟩]
def aGK (L:List (Nat × Ag)) (e:AE) (r:PEnd):Prop:=
 match r with
 | .ret [x]=>∃ v,e=.returned v/\GH L 5 v x
 | .ret xs=>∃ vs,e=.returned (.GG vs)/\EJ (GH L 5) vs xs
 | .F7 x=>∃ v,e=.panicked [⟨v,false⟩]/\GH L 5 v x
def TE:List (Nat × Ag)->List Nat
 | []=>[]
 | (n,o)::r=>match BV o.c with
  | true=>n::TE r
  | false=>TE r
section
variable (C:Cx)
def YJ (Q:PEnd->Prop) (e:AE) (H':Hp):Prop:=∃ r,(CV H'.l (TE H'.l)=true/\aGK (marks H'.l (TE H'.l)) e r)/\Q r
def Pure (g:FuncId) (args:List PV) (Q:PEnd->Prop):Prop:=Holds C g (args.map .p) ⟨0,[]⟩ (YJ Q)
end
section
variable {C:Cx}
theorem Pure.mono {g:FuncId} {args:List PV} {Q Q':PEnd->Prop} (h:Pure C g args Q) (hq:∀ r,Q r->Q' r):Pure C g args Q':=
 Holds.mono h fun _ _ ⟨r,h1,h2⟩=>⟨r,h1,hq r h2⟩
theorem R.aGL {Γ:Gm} {H:Hp} {w:World} (h:R C Γ H w):R C ⟨fun _=>none,Γ.fz⟩ ⟨0,[]⟩ w:=
 MEt
theorem OM {Γ:Gm} {n k:Nat} (h:RJ Γ ⟨n,[]⟩ k):False:=by
 obtain⟨n,o,q,h1,_⟩:=h
 simp [Aq] at h1
theorem aAp {Γ:Gm} {H:Hp} {w:World} (hR:R C Γ H w) {e:AE} {r:PEnd} {e':Ending} (h:aGK H.l e r) (he:ER Γ e e'):∀ nm,ER ⟨nm,Γ.fz⟩ (Rl r) e':=by
 intro nm
 have one:∀ x v,e=.returned v->GH H.l 5 v x->ER ⟨nm,Γ.fz⟩ (.returned (.p x)) e':=by
  rintro x v rfl h2
  obtain⟨v',rfl,hv⟩:=he
  exact⟨v',rfl,by grind [VR,Dj]⟩
 have many:∀ xs vs,e=.returned (.GG vs)->EJ (GH H.l 5) vs xs->ER ⟨nm,Γ.fz⟩ (.returned (.GG (xs.map .p))) e':=by
  rintro xs vs rfl h2
  obtain⟨v',rfl,hv⟩:=he
  simp only [VR] at hv
  obtain⟨vs',rfl,hv⟩:=hv
  exact⟨_,rfl,by simp only [VR];exact⟨vs',rfl,CJ.2 (FJ (Dj hR 5) h2 hv)⟩⟩
 match r,h with
 | .ret [],h=>obtain⟨vs,h1,h2⟩:=h;exact many [] vs h1 h2
 | .ret [x],h=>obtain⟨v,h1,h2⟩:=h;exact one x v h1 h2
 | .ret (x::y::xs),h=>obtain⟨vs,h1,h2⟩:=h;exact many (x::y::xs) vs h1 h2
 | .F7 x,h=>
  obtain⟨v,rfl,h2⟩:=h
  obtain⟨c',rfl,hc⟩:=he
  simp only [Ny] at hc
  obtain⟨q,qs,rfl,⟨k1,k2⟩,rfl⟩:=hc
  refine⟨_,rfl,?_⟩
  simp only [Ny]
  exact⟨q,[],rfl,⟨by grind [VR,Dj],k2⟩,rfl⟩
theorem QZ {Cq:Gm} {H1:Hp} {w:World} (Qa:R C Cq H1 w) {Q:PEnd->Prop} {e':Ending} {w':World} (h:Fs C ⟨fun _=>none,Cq.fz⟩ ⟨0,[]⟩ w (YJ Q) e' w') :
  ∃ r BU,Q r/\BU.nm=Cq.nm/\ER BU (Rl r) e'/\Au C H1.next Cq H1 w BU H1 w'/\Tr Cq H1 w Cq H1 w'/\R C Cq H1 w':=by
 obtain⟨e,H',Γc,⟨r,⟨hm,Js⟩,hq⟩,hE,hL⟩:=h
 obtain⟨Γd,ed,su⟩:=hL.1.mark hm
 have Yd:=hL.trans (su.mono (qL _))
 have hE':=lu (su.le hL.1) hE
 have hT:=Yd.2.2.2
 have KZ:∀ k,k<w.heap.size->w'.heap[k]?=w.heap[k]?:=fun k hk=>hT.kept k hk OM
 have hle:Cq.le ⟨Cq.nm,Γd.fz⟩:=⟨fun _ _ h=>h,hT.fz⟩
 have aJj:∀ (Γx:Gm),Cq.le Γx->Γx.nm=Cq.nm->∀ n o,Aq H1.l n=some o->∃ q,Γx.nm n=some q/\Cv C.P Γx w' q o:=by
  intro Γx hx F4 n o ho
  obtain⟨q,h1,h2⟩:=Qa.Dz n o ho
  exact⟨q,MAe,h2.ext hx fun BF=>KZ _ (h2.IP BF)⟩
 have U1:∀ n o q,Aq H1.l n=some o->o.fr=false->Cq.nm n=some q->q.nl=false->Γd.fz q.blk=none:=by
  intro n o q h1 h2 h3 h4
  have h0:=Qa.own n o q h1 h2 h3 h4
  cases hx:Γd.fz q.blk with
  | none=>rfl
  | some a=>
   rcases hT.Lh _ _ hx with h5 | h5 | h5
   ·simp_all
   ·exact MGV
   grind [OM]
 refine⟨r,⟨Cq.nm,Γd.fz⟩,hq,rfl,aAp su.1 Js hE' _,⟨⟨su.1.Jq,Qa.fresh,su.1.Io,aJj _ hle rfl,U1,Qa.apart⟩,fun _ _=>rfl,qN _,?_⟩,?_,?_⟩
 ·refine⟨hT.os,hT.tape,hT.output,hT.size,fun k hk _=>KZ k hk,fun k hk=>.inr hk,hT.fz,fun k a hk=>?_⟩
  rcases hT.Lh k a hk with h5 | h5 | h5
  ·exact .inl h5
  ·omega
  grind [OM]
 ·exact⟨hT.os,hT.tape,hT.output,hT.size,fun k hk _=>KZ k hk,fun k hk=>.inr hk,FW.le_refl _,fun k a hk=>.inl hk⟩
 ·exact⟨Qa.Jq,Qa.fresh,fun b arr hb=>by
   obtain⟨t,z,h1⟩:=Qa.Io b arr hb
   grind,aJj _ (Gm.le_refl _) rfl,Qa.own,Qa.apart⟩
theorem Pure.use {g:FuncId} {pargs:List PV} {Q:PEnd->Prop} {args:List AV} {H:Hp} {Q':AE->Hp->Prop} (h:Pure C g pargs Q) (fs:List Nat) (hm:CV H.l fs=true) (ha:EJ (GH (marks H.l fs) 5) args pargs)
  (hQ:∀ r,Q r->Q' (Rl r) (H.TA fs)):Holds C g args H Q':=by
 intro Γ w args' hR hA
 obtain⟨Cq,e1,JN⟩:=hR.mark hm
 have hA1:=Cw (JN.le hR) _ _ hA
 have hp:=FJ (Dj JN.1 5) (show EJ (GH (H.TA fs).l 5) args pargs from ha) hA1
 have key:∀ e w',Fs C ⟨fun _=>none,Cq.fz⟩ ⟨0,[]⟩ w (YJ Q) e w'->Fs C Γ H w Q' e w':=by
  intro e w' hP
  obtain⟨r,BU,hq,e2,hE,hL,_⟩:=QZ JN.1 hP
  exact⟨_,_,BU,hQ r hq,hE,JN.trans (hL.mono JN.2.2.1)⟩
 exact MCm
mutual
def YK:PV->Bool
 | .bool _=>true
 | .int _ _=>true
 | .str _=>true
 | .J6=>true
 | .Ad=>true
 | .Sw=>true
 | .NK=>true
 | .nilIface=>true
 | .iface _ v=>YK v
 | .agg cs=>Lf cs
 | _=>false
def Lf:List PV->Bool
 | []=>true
 | v::vs=>YK v && Lf vs
end
mutual
theorem TB {a b:FW}:∀ (v:PV) (v':Value),YK v=true->VP a v v'->VP b v v'
 | .bool _,_,_,h=>by trivial
 | .int _ _,_,_,h=>by trivial
 | .str _,_,_,h=>by trivial
 | .J6,_,_,h=>by trivial
 | .Ad,_,_,h=>by trivial
 | .Sw,_,_,h=>by trivial
 | .NK,_,_,h=>by trivial
 | .nilIface,_,_,h=>by trivial
 | .iface _ v,_,hf,h=>by
  simp only [VP] at h ⊢
  obtain⟨u,h1,h2⟩:=h
  exact⟨u,h1,TB v u (by simpa only [YK] using hf) h2⟩
 | .agg cs,_,hf,h=>by
  simp only [VP] at h ⊢
  obtain⟨u,h1,h2⟩:=h
  exact⟨u,h1,PY cs _ (by simpa only [YK] using hf) h2⟩
 | .fp _,_,hf,_=>MDL
 | .Dh _,_,hf,_=>MDL
 | .Ai _ _,_,hf,_=>MDL
 | .fn _ _ _,_,hf,_=>MDL
theorem PY {a b:FW}:∀ (v:List PV) (v':List Value),Lf v=true->Ey a v v'->Ey b v v'
 | [],_,_,h=>by trivial
 | x::xs,_,hf,h=>by
  simp only [Lf,qC] at hf
  simp only [Ey] at h ⊢
  obtain⟨u,us,h1,h2,h3⟩:=h
  exact⟨u,us,h1,TB x u hf.1 h2,PY xs us hf.2 h3⟩
end
def fC:PEnd->Bool
 | .ret vs=>Lf vs
 | .F7 v=>YK v
theorem aJk {a b:Gm} {r:PEnd} {e':Ending} (hf:fC r=true) (h:ER a (Rl r) e'):ER b (Rl r) e':=by
 match r,hf,h with
 | .ret [],hf,h=>trivial
 | .ret [x],hf,h=>
  obtain⟨v',h1,h2⟩:=h
  simp only [fC,Lf,xX] at hf
  exact⟨v',h1,by grind [VR,TB]⟩
 | .ret (x::y::xs),hf,h=>
  obtain⟨v',h1,h2⟩:=h
  simp only [fC] at hf
  refine⟨v',h1,?_⟩
  simp only [VR] at h2 ⊢
  obtain⟨vs',h3,h4⟩:=h2
  exact⟨vs',h3,CJ.2 (PY _ _ hf (CJ.1 h4))⟩
 | .F7 x,hf,h=>
  obtain⟨c',rfl,hc⟩:=h
  simp only [Ny] at hc
  obtain⟨q,qs,rfl,⟨k1,k2⟩,rfl⟩:=hc
  simp only [fC] at hf
  refine⟨_,rfl,?_⟩
  simp only [Ny]
  refine⟨q,[],rfl,⟨?_,k2⟩,rfl⟩
  grind [VR,TB]
theorem Pure.aQU {g:FuncId} {pargs:List PV} {Q:PEnd->Prop} {args:List AV} {H:Hp} {Q':AE->Hp->Prop} (h:Pure C g pargs Q) (fs:List Nat) (hm:CV H.l fs=true) (ha:EJ (GH (marks H.l fs) 5) args pargs)
  (hQ:∀ r,Q r->fC r=true/\Q' (Rl r) H):Holds C g args H Q':=by
 intro Γ w args' hR hA
 obtain⟨Cq,e1,JN⟩:=hR.mark hm
 have hA1:=Cw (JN.le hR) _ _ hA
 have hp:=FJ (Dj JN.1 5) (show EJ (GH (H.TA fs).l 5) args pargs from ha) hA1
 have key:∀ e w',Fs C ⟨fun _=>none,Cq.fz⟩ ⟨0,[]⟩ w (YJ Q) e w'->Fs C Γ H w Q' e w':=by
  intro e w' hP
  obtain⟨r,BU,hq,e2,hE,hL,K9,Qa⟩:=QZ JN.1 hP
  obtain⟨hf,Gp⟩:=hQ r hq
  -- the world is Fq it was,but for new blocks
  obtain⟨e0,PN,Γc,_,_,hLc⟩:=hP
  have KZ:∀ k,k<w.heap.size->w'.heap[k]?=w.heap[k]?:=fun k hk=>hLc.2.2.2.kept k hk OM
  refine⟨_,H,Γ,Gp,aJk hf hE,⟨hR.Jq,hR.fresh,fun b arr hb=>?_,fun n o ho=>?_,hR.own,hR.apart⟩,fun _ _=>rfl,qN _,⟨K9.os,K9.tape,K9.output,K9.size,fun k hk _=>KZ k hk,fun k hk=>.inr hk,FW.le_refl _,fun k a hk=>.inl hk⟩⟩
  ·obtain⟨t,z,h1⟩:=hR.Io b arr hb
   grind
  ·obtain⟨q,h1,h2⟩:=hR.Dz n o ho
   exact⟨q,h1,h2.ext (Gm.le_refl _) fun BF=>KZ _ (h2.IP BF)⟩
 exact MCm
theorem A9 (L:List (Nat × Ag)) (x:PV):GH L 5 (.p x) x:=by
 exact MEc
theorem aAk (L:List (Nat × Ag)):∀ (l:List PV),EJ (GH L 5) (l.map .p) l
 | []=>rfl
 | x::l=>by
  simp only [kI,EJ]
  exact⟨x,l,rfl,A9 L x,aAk L l⟩
theorem Pure.at {g:FuncId} {pargs:List PV} {Q:PEnd->Prop} {H:Hp} {Q':AE->Hp->Prop} (h:Pure C g pargs Q) (hQ:∀ r,Q r->Q' (Rl r) H):Holds C g (pargs.map .p) H Q':=
 h.use [] rfl (aAk _ _) hQ
theorem pure_of_vc {f : FuncId} {fn : Func} {c : Code} {args : List PV} {Q : PEnd -> Prop} (hf : C.P.funcs[f]? = some fn) (hname : (fn.name == "runtime.NumGoroutine") = false) (hb : fn.body = some c)
  (hN:Nat.ble (args.map AV.p).length fn.ntmps=true) (hv:vc C none 0 fn.ntmps c (Bh (fun _=>Bv) (Ru 0 (args.map .p))) [] ⟨0,[]⟩ (Fin C fn.results.toList (YJ Q))):Pure C f args Q:=
 (holds_of_vc hf hname hb hN hv).holds
end
end Go.Proofs.YtkegmchjobphdaaGreatDoor.Y
namespace Go.Proofs.YtkegmchjobphdaaGreatDoor.Y
open Go
section
variable (ρ:Nat->Nat) (ni:List (Nat × Nat)) (L:List (Nat × Ag))
def aGR:List AP->List AP->Prop
 | l0,[]=>l0=[]
 | l0,p::ps=>∃ v r,l0=⟨v,p.rcv⟩::r/\U0 ρ ni L v p.v/\aGR r ps
def aOZ:AE->AE->Prop
 | e, .returned v1=>∃ v,e=.returned v/\U0 ρ ni L v v1
 | e, .panicked c1=>∃ c,e=.panicked c/\aGR ρ ni L c c1
end
def Ux (n0:Nat) (Q:AE->Hp->Prop) (e:AE) (H':Hp):Prop:=
 ∃ fs ps ni e1 H1,(CV H'.l fs && Nat.ble n0 (Hp.next H1) && aD5 n0 (Hp.next H1) ni && NL (CW n0 ps (Hp.next H1) H'.next) ni (Hp.l H1))=true /\
  aOZ (CW n0 ps (Hp.next H1) H'.next) ni (marks H'.l fs) e e1/\Uw (CW n0 ps (Hp.next H1) H'.next) ni (marks H'.l fs) n0 (Hp.l H1)/\Q e1 H1
section
variable {C:Cx}
theorem Ya {Γ:Gm} {H:Hp} {w:World} {ρ:Nat->Nat} {ni:List (Nat × Nat)} (hR:R C Γ H w):∀ (c1 c:List AP) (c':List PanicEntry),aGR ρ ni H.l c c1->Ny Γ c c'->Ny (Γ.see ρ ni) c1 c'
 | [],c,c',hs,hc=>by simp only [aGR] at hs;subst hs;exact hc
 | p::ps,c,c',hs,hc=>by
  simp only [aGR] at hs
  obtain⟨v,r,rfl,h1,h2⟩:=hs
  simp only [Ny] at hc ⊢
  obtain⟨q,qs,rfl,⟨k1,k2⟩,k3⟩:=hc
  exact⟨q,qs,rfl,⟨NR hR _ _ _ h1 k1,k2⟩,Ya hR ps r qs h2 k3⟩
theorem YV {Γ:Gm} {H:Hp} {w:World} {ρ:Nat->Nat} {ni:List (Nat × Nat)} (hR:R C Γ H w) {e e1:AE} {e':Ending} (hs:aOZ ρ ni H.l e e1) (he:ER Γ e e'):ER (Γ.see ρ ni) e1 e':=by
 cases e1 with
 | returned v1=>
  obtain⟨v,rfl,h1⟩:=hs
  obtain⟨v',rfl,h2⟩:=he
  exact⟨v',rfl,NR hR _ _ _ h1 h2⟩
 | panicked c1=>
  obtain⟨c,rfl,h1⟩:=hs
  obtain⟨c',rfl,h2⟩:=he
  exact⟨c',rfl,Ya hR _ _ _ h1 h2⟩
theorem Fs.gc {Γ:Gm} {H:Hp} {w:World} {Q:AE->Hp->Prop} {e':Ending} {w':World} (h:Fs C Γ H w (Ux H.next Q) e' w'):Fs C Γ H w Q e' w':=by
 obtain⟨e,H',BU,⟨fs,ps,ni,e1,H1,hb,hE,hH,hq⟩,hER,hL⟩:=h
 simp only [qC] at hb
 obtain⟨⟨⟨b1,b2⟩,b3⟩,b4⟩:=hb
 have b2:=qp b2
 obtain⟨YT,e2,Rp⟩:=hL.1.mark b1
 have lq:=R.see (H1:=H1) (ρ:=CW H.next ps H1.next H'.next) Rp.1 hH (Kb b4) b3 (fun n h=>YU h) b2 (fun n h=>by rw [TF b2 h];show H'.next<=_;omega)
 exact⟨e1,H1,_,hq,YV Rp.1 hE (lu (Rp.le hL.1) hER),(hL.trans (Rp.mono hL.2.2.1)).trans lq⟩
theorem holdsN_of_vc {f : FuncId} {fn : Func} {c : Code} {args : List AV} {H : Hp} {Q : AE -> Hp -> Prop} (hf : C.P.funcs[f]? = some fn) (hname : (fn.name == "runtime.NumGoroutine") = false) (hb : fn.body = some c)
  (hN:Nat.ble args.length fn.ntmps=true) (hv:vc C none H.next fn.ntmps c (Bh (fun _=>Bv) (Ru 0 args)) [] H (Fin C fn.results.toList (Ux H.next Q))):A7 C f args H Q:=by
 intro Γ w args' hR hA
 obtain⟨h1,h2⟩:=holds_of_vc hf hname hb hN hv Γ w args' hR hA
 exact⟨h1,h2.mono fun _ _=>Fs.gc⟩
mutual
def FH (ρ:Nat->Nat):AV->AV
 | .p v=>.p v
 | .ptr n i f=>.ptr (ρ n) i f
 | .Lx n i f=>.Lx (ρ n) i f
 | .sl n s off len=>.sl (ρ n) s off len
 | .mp n=>.mp (ρ n)
 | .fn f a b=>.fn (aD3 ρ f) (Ip ρ a) (Ip ρ b)
 | .iface t v=>.iface t (FH ρ v)
 | .agg cs=>.agg (Ip ρ cs)
 | .GG cs=>.GG (Ip ρ cs)
 | .LC=>.LC
 | .junk=>.junk
def Ip (ρ:Nat->Nat):List AV->List AV
 | []=>[]
 | v::vs=>FH ρ v::Ip ρ vs
end
mutual
theorem lv {a b:Gm} {ρ:Nat->Nat} (hn:∀ n,b.nm (ρ n)=a.nm n) (hf:a.fz=b.fz):∀ (v:AV) (v':Value),VR a v v'->VR b (FH ρ v) v'
 | .p v,v',h=>by grind [VR,FH]
 | .ptr n i f,v',h=>by
  simp only [VR,FH] at h ⊢
  obtain⟨q,h1,h2⟩:=h
  exact⟨q,by rw [hn];exact h1,h2⟩
 | .Lx n i f,v',h=>by
  exact MC1
 | .sl n s off len,v',h=>by
  exact MC1
 | .mp n,v',h=>by
  grind [VR,FH]
 | .fn f a1 b1,v',h=>by
  simp only [VR,FH] at h ⊢
  obtain⟨f',bf,Dt,h1,h2,h3,h4⟩:=h
  refine⟨f',bf,Dt,h1,?_,LM hn hf a1 _ h3,LM hn hf b1 _ h4⟩
  exact MIJ
 | .iface t v,v',h=>by
  simp only [VR,FH] at h ⊢
  obtain⟨u,h1,h2⟩:=h
  exact⟨u,h1,lv hn hf v u h2⟩
 | .agg cs,v',h=>by
  exact MHx
 | .GG cs,v',h=>by
  exact MHx
 | .LC,v',h=>MDL
 | .junk,v',h=>MDL
theorem LM {a b:Gm} {ρ:Nat->Nat} (hn:∀ n,b.nm (ρ n)=a.nm n) (hf:a.fz=b.fz):∀ (v:List AV) (v':List Value),CX a v v'->CX b (Ip ρ v) v'
 | [],_,h=>by trivial
 | v::vs,_,h=>by
  simp only [Ip,CX] at h ⊢
  obtain⟨u,us,h1,h2,h3⟩:=h
  exact⟨u,us,h1,lv hn hf v u h2,LM hn hf vs us h3⟩
end
theorem JX (ρ:Nat->Nat):∀ (l:List AV),(Ip ρ l).length=l.length
 | []=>rfl
 | v::vs=>by simp [Ip,JX ρ vs]
def aJi (ρ:Nat->Nat):List AP->List AP
 | []=>[]
 | p::r=>⟨FH ρ p.v,p.rcv⟩::aJi ρ r
def aD2 (ρ:Nat->Nat):AE->AE
 | .returned v=>.returned (FH ρ v)
 | .panicked c=>.panicked (aJi ρ c)
theorem aCL {a b:Gm} {ρ:Nat->Nat} (hn:∀ n,b.nm (ρ n)=a.nm n) (hf:a.fz=b.fz):∀ {c:List AP} {c':List PanicEntry},Ny a c c'->Ny b (aJi ρ c) c'
 | [],_,h=>h
 | p::r,_,h=>by
  simp only [aJi,Ny] at h ⊢
  obtain⟨q,qs,h1,⟨h2,h3⟩,h4⟩:=h
  exact⟨q,qs,h1,⟨lv hn hf _ _ h2,h3⟩,aCL hn hf h4⟩
theorem aMh {a b:Gm} {ρ:Nat->Nat} (hn:∀ n,b.nm (ρ n)=a.nm n) (hf:a.fz=b.fz) {e:AE} {e':Ending} (h:ER a e e'):ER b (aD2 ρ e) e':=by
 cases e with
 | returned v=>obtain⟨v',h1,h2⟩:=h;exact⟨v',h1,lv hn hf _ _ h2⟩
 | panicked c=>obtain⟨c',h1,h2⟩:=h;exact⟨c',h1,aCL hn hf h2⟩
def RI (ρ:Nat->Nat):List (List AV)->List (List AV)
 | []=>[]
 | v::vs=>Ip ρ v::RI ρ vs
theorem YO (ρ:Nat->Nat):∀ l:List (List AV),RI ρ l=l.map (Ip ρ)
 | []=>rfl
 | v::l=>by rw [RI,YO ρ l];rfl
theorem sj (ρ:Nat->Nat):∀ a b:List AV,Ip ρ (a++b)=Ip ρ a++Ip ρ b
 | [],b=>rfl
 | x::a,b=>by simp only [kD,Ip,sj ρ a b]
theorem Rn (ρ:Nat->Nat):∀ l:List (List AV),(RI ρ l).flatten=Ip ρ l.flatten
 | []=>rfl
 | v::l=>by simp only [RI,xI,sj,Rn ρ l]
def O8 (ρ:Nat->Nat):Cn->Cn
 | .bx cs=>.bx (Ip ρ cs)
 | .mx cs=>.mx (Ip ρ cs)
 | .Gw OI=>.Gw (RI ρ OI)
 | c=>c
def YN (ρ:Nat->Nat) (o:Ag):Ag:={ o with c:=O8 ρ o.c }
theorem aAm {P:Program} {a b:Gm} {ρ:Nat->Nat} {w:World} {q:Pl} {o:Ag} (hn:∀ n,b.nm (ρ n)=a.nm n) (hf:a.fz=b.fz) (hc:BV o.c=true) (h:Cv P a w q o):Cv P b w q (YN ρ o):=by
 obtain⟨t,fr,c⟩:=o
 have key:BV (O8 ρ c)=true/\(NM c->NM (O8 ρ c))/\(∀ s tc,DN s tc c->DN s tc (O8 ρ c))/\(∀ us,CX a (flat c) us->CX b (flat (O8 ρ c)) us):=by
  cases c with
  | bx cs=>exact⟨rfl,fun h=>h,fun s tc h=>⟨by rw [JX];exact h.1,h.2⟩,fun us h=>LM hn hf _ _ h⟩
  | mx cs=>exact⟨rfl,fun h=>MFk,fun s tc h=>h,fun us h=>LM hn hf _ _ h⟩
  | Gw OI=>exact⟨rfl,fun h=>MFk,fun s tc h cs hc=>by
    rw [YO] at hc
    obtain⟨c,Wi,rfl⟩:=qz.1 hc
    rw [JX];exact h c Wi,fun us h=>by
    grind [O8,flat,Rn,LM]⟩
  | pu xs=>exact MGI
  | GN xs=>exact MGI
  | lp=>cases hc
  | df=>cases hc
  | ms=>cases hc
  | mk=>cases hc
  | it=>cases hc
 obtain⟨k1,k2,k3,k4⟩:=key
 rw [BA (o:=YN ρ ⟨t,fr,c⟩) k1]
 rcases (BA (o:=⟨t,fr,c⟩) hc).1 h with ⟨g1,g2,g3⟩ | ⟨g0,us,rest,z,g1,g2,g3,g3',g4,g5,g6,g7,g8⟩
 ·exact .inl ⟨g1,k2 g2,k3 _ _ g3⟩
 ·exact .inr ⟨g0,us,rest,z,g1,g2,g3,g3',g4,k4 us g5,g6,k3 _ _ g7,fun e=>by rw [<- hf];exact g8 e⟩
def aD7:Cn->Bool
 | .lp ..=>false
 | .df=>false
 | _=>true
theorem aGS {P:Program} {a b:Gm} {ρ:Nat->Nat} {w:World} {q:Pl} {o:Ag} (hn:∀ n,b.nm (ρ n)=a.nm n) (hf:a.fz=b.fz) (hc:aD7 o.c=true) (h:Cv P a w q o):Cv P b w q (YN ρ o):=by
 by_cases JM:BV o.c=true
 ·grind [aAm]
 ·obtain⟨t,fr,c⟩:=o
  cases c <;> first | exact absurd rfl JM | cases hc | skip
  ·simp only [Cv,YN,O8] at h ⊢
   rw [<- hf];exact h
  ·grind [Cv,YN,O8]
  trivial
theorem aD8 {P:Program} {a:Gm} {w:World} {q:Pl} {o:Ag} (hc:aD7 o.c=true) (h:Cv P a w q o) (hf:o.fr=true):BV o.c=true:=by
 obtain⟨t,fr,c⟩:=o
 cases c <;> first | rfl | cases hc | skip
 ·simp only [Cv] at h hf
  rw [h.2.1] at hf;cases hf
 ·grind [Cv]
 grind [Cv]
def lX (ρ:Nat->Nat):List (Nat × Ag)->List (Nat × Ag)
 | []=>[]
 | (n,o)::r=>match aD7 o.c with
  | true=>(ρ n,YN ρ o)::lX ρ r
  | false=>lX ρ r
def Yb (ρ:Nat->Nat):List (Nat × Ag)->Nat->Bool
 | [],_=>false
 | (n,_)::r,m=>Nat.beq (ρ n) m || Yb ρ r m
def rest (ρ:Nat->Nat) (L0:List (Nat × Ag)):List (Nat × Ag)->List (Nat × Ag)
 | []=>[]
 | (m,o)::r=>match Yb ρ L0 m with
  | true=>rest ρ L0 r
  | false=>(m,o)::rest ρ L0 r
def Rm:List (Nat × Ag)->Bool
 | []=>true
 | (n,_)::r=>r.all (fun p=>!Nat.beq p.1 n) && Rm r
def mrg (ρ:Nat->Nat) (n0:Nat) (L0:List (Nat × Ag)) (H PN:Hp):Hp:=⟨H.next+(PN.next - n0),lX ρ PN.l++rest ρ L0 H.l⟩
theorem Vy {a b:List (Nat × Ag)} {m:Nat} {o:Ag} (h:Aq (a++b) m=some o):(m,o)∈a∨Aq b m=some o:=by
 induction a with
 | nil=>exact .inr h
 | cons p r ih=>
  grind [D7,Eb]
theorem YP {l:List (Nat × Ag)} (h:Rm l=true) {n:Nat} {o:Ag} (hm:(n,o)∈l):Aq l n=some o:=by
 induction l with
 | nil=>simp at hm
 | cons p r ih=>
  obtain⟨k,x⟩:=p
  simp only [Rm,qC,qi,ku] at h
  rcases qw.1 hm with e | e
  ·grind [D7]
  ·have:=h.1 _ e
   rw [Eb (fun e'=>MAe)]
   exact ih h.2 e
theorem sO {ρ:Nat->Nat} {l:List (Nat × Ag)} {m:Nat} {o:Ag} (h:(m,o)∈lX ρ l):∃ n o',(n,o')∈l/\aD7 o'.c=true/\m=ρ n/\o=YN ρ o':=by
 induction l with
 | nil=>simp [lX] at h
 | cons p r ih=>
  grind [lX]
theorem aD9 {ρ:Nat->Nat} {l:List (Nat × Ag)} {m:Nat} (h:Yb ρ l m=false) {n:Nat} {o:Ag} (hn:(n,o)∈l):ρ n ≠ m:=by
 induction l with
 | nil=>simp at hn
 | cons p r ih=>
  obtain⟨k,x⟩:=p
  simp only [Yb,vE] at h
  rcases qw.1 hn with e | e
  ·injection e with e1 e2
   subst e1
   intro e
   simp_all
  ·exact ih h.2 e
theorem aEA {ρ:Nat->Nat} {L0 l:List (Nat × Ag)} {m:Nat} {o:Ag} (h:Aq (rest ρ L0 l) m=some o):Yb ρ L0 m=false/\Aq l m=some o:=by
 induction l with
 | nil=>trivial
 | cons p r ih=>
  grind [rest,Eb,D7]
theorem Holds.aQQ {g:FuncId} {S9 args:List AV} {n0:Nat} {L0:List (Nat × Ag)} {H:Hp} {Q0 Q:AE->Hp->Prop} (h:Holds C g S9 ⟨n0,L0⟩ Q0) (fs:List Nat) (ps:List (Nat × Nat))
  (hb:(CV H.l fs && (List.range n0).all (fun n=>Nat.blt (look ps n) H.next) && NL (CW 0 ps n0 H.next) [] L0)=true)
  (hH:Uw (CW 0 ps n0 H.next) [] (marks H.l fs) 0 L0) (hA0:GM (CW 0 ps n0 H.next) [] (marks H.l fs) args S9)
  (hQ:∀ e0 PN,Q0 e0 PN->Rm PN.l=true/\Q (aD2 (CW 0 ps n0 H.next) e0) (mrg (CW 0 ps n0 H.next) n0 L0 (H.TA fs) PN)):Holds C g args H Q:=by
 intro Γ0 w args' hR0 hA
 simp only [qC] at hb
 obtain⟨⟨b1,b2⟩,b3⟩:=hb
 obtain⟨Γ,e1,hLm⟩:=hR0.mark b1
 have hR:=hLm.1
 have hA:=Cw (hLm.le hR0) _ _ hA
 have GL:∀ n,n<n0->CW 0 ps n0 H.next n<H.next:=by
  intro n hn
  unfold CW
  rw [show Nat.blt n 0=false from rfl]
  rw [show Nat.blt n n0=true by simpa using hn]
  have:=qi.1 b2 n (xP.2 hn)
  exact MHw
 have hge:∀ n,n0<=n->CW 0 ps n0 H.next n=n - n0+H.next:=fun n hn=>TF (qL _) hn
 have lq:=R.see (H1:=⟨n0,L0⟩) (ρ:=CW 0 ps n0 H.next) (ni:=[]) (n0:=0) hR hH (Kb b3) rfl (fun n h=>by omega) (qL _) (fun n h=>by rw [hge n h];show H.next<=_;omega)
 have hA1:=Dk hR _ _ _ hA0 hA
 have key:∀ e w',Fs C (Γ.see (CW 0 ps n0 H.next) []) ⟨n0,L0⟩ w Q0 e w'->Fs C Γ (H.TA fs) w Q e w':=by
  rintro e' w' ⟨e0,PN,Γc,h1,h2,hL⟩
  obtain⟨hnd,hq⟩:=hQ e0 PN h1
  obtain⟨h3,h4,h5,h6⟩:=hL
  simp only at h4 h5
  let BU:Gm:=⟨fun m=>if m<H.next then Γ.nm m else Γc.nm (m - H.next+n0),Γc.fz⟩
  have F4:∀ n,BU.nm (CW 0 ps n0 H.next n)=Γc.nm n:=by
   intro n
   by_cases hn:n<n0
   ·simp only [BU,qM (GL n hn)]
    rw [h4 n hn]
    rfl
   ·grind
  have hle:Γ.le BU:=by
   refine⟨fun n q hq=>?_,h6.fz⟩
   exact MKA
  have aOa:∀ k,RJ (Γ.see (CW 0 ps n0 H.next) []) ⟨n0,L0⟩ k->RJ Γ (H.TA fs) k:=fun k hk=>by
   rcases lq.2.2.2.Wn k hk with h1 | h1
   ·exact absurd (RJ.IP lq.1 hk) ME
   ·exact h1
  -- an owned block of the aGT is not one of the frame
  have aAn:∀ m o q,Yb (CW 0 ps n0 H.next) L0 m=false->Aq (H.TA fs).l m=some o->Γ.nm m=some q->q.nl=false->q.blk<w.heap.size/\¬ RJ (Γ.see (CW 0 ps n0 H.next) []) ⟨n0,L0⟩ q.blk:=by
   intro m o q Bt hm hq BF
   obtain⟨q',e1,e2⟩:=hR.Dz m o hm
   rw [hq] at e1;injection e1 with e1;subst e1
   refine⟨e2.IP BF,?_⟩
   rintro⟨n,o0,q0,k1,k2,k3,k4,k5⟩
   have OQ:=TI hH k1
   unfold aAo at OQ
   simp only [D8] at OQ
   obtain⟨oc,j1,j2,j3,j4⟩:=OQ
   have ES:=aD9 Bt (Yc k1)
   exact hR.apart _ oc m o q0 q j1 hm ES k3 hq (by rw [j3];exact k2) k4 BF k5
  have hwh:∀ m o,Aq (mrg (CW 0 ps n0 H.next) n0 L0 (H.TA fs) PN).l m=some o->(∃ n o',m=CW 0 ps n0 H.next n/\Aq PN.l n=some o'/\aD7 o'.c=true/\o=YN (CW 0 ps n0 H.next) o')∨(Yb (CW 0 ps n0 H.next) L0 m=false/\Aq (H.TA fs).l m=some o):=by
   intro m o hm
   rcases Vy hm with h1 | h1
   ·grind [sO,YP]
   ·grind [aEA]
  have bg:∀ m o q,Yb (CW 0 ps n0 H.next) L0 m=false->Aq (H.TA fs).l m=some o->BU.nm m=some q->Γ.nm m=some q:=by
   intro m o q _ hm hq
   exact MHO
  -- a block of the aGT that the heap aSD,or that is not written any more,is none of an owned object of the frame
  have hblk:∀ n o' qc m o q,Aq PN.l n=some o'->Γc.nm n=some qc->qc.nl=false->Yb (CW 0 ps n0 H.next) L0 m=false->Aq (H.TA fs).l m=some o->Γ.nm m=some q->q.nl=false->(o'.fr=false∨o.fr=false)->aD7 o'.c=true->qc.blk ≠ q.blk:=by
   intro n o' qc m o q k1 k2 k3 k4 k5 k6 k7 k8 k9 e
   obtain⟨l1,l2⟩:=aAn m o q k4 k5 k6 k7
   cases Ea:o'.fr with
   | false=>
    rcases h6.Wn qc.blk ⟨n,o',qc,k1,Ea,k2,k3,rfl⟩ with c1 | c1
    ·omega
    simp_all
   | true=>
    have hof:o.fr=false:=by
     rcases k8 with k8 | k8
     ·simp_all
     ·exact k8
    obtain⟨qx,x1,x2⟩:=h3.Dz n o' k1
    rw [k2] at x1;injection x1 with x1;subst x1
    have k9:BV o'.c=true:=aD8 k9 x2 Ea
    rcases (BA k9).1 x2 with ⟨y,_⟩ | ⟨_,us,rr,z,g1,g2,g3,g3',g4,g5,g6,g7,g8⟩
    ·simp_all
    ·rcases h6.Lh _ _ (g8 Ea) with c1 | c1 | c1
     ·have c1':Γ.fz qc.blk=some _:=c1
      rw [e,hR.own m o q k5 hof k6 k7] at c1'
      cases c1'
     ·omega
     simp_all
  refine⟨_,_,BU,hq,aMh F4 rfl h2,⟨h3.Jq,fun n hn=>?_,h3.Io,fun m o hm=>?_,fun m o q hm hf GA BF=>?_,fun m o m' o' q q' hm hm' ES GA QW hf BF PZ=>?_⟩,fun m hm=>by have hm:m<H.next:=hm;grind,by show H.next<=H.next+_;omega,⟨h6.os,h6.tape,h6.output,h6.size,fun k hk Bt=>h6.kept k hk (fun e=>Bt (aOa k e)),fun k hk=>?_,h6.fz,fun k a hk=>?_⟩⟩
  ·have hn:H.next+(PN.next - n0)<=n:=hn
   exact MJN
  ·rcases hwh m o hm with ⟨n,o',rfl,k2,k3,rfl⟩ | ⟨k1,k2⟩
   ·obtain⟨q,x1,x2⟩:=h3.Dz n o' k2
    exact⟨q,MAe,aGS F4 rfl k3 x2⟩
   ·obtain⟨q,x1,x2⟩:=hR.Dz m o k2
    refine⟨q,hle.nm _ _ x1,x2.ext hle fun BF=>?_⟩
    obtain⟨l1,l2⟩:=aAn m o q k1 k2 x1 BF
    exact h6.kept _ l1 l2
  ·rcases hwh m o hm with ⟨n,o',rfl,k2,k3,rfl⟩ | ⟨k1,k2⟩
   ·rw [F4] at GA
    exact h3.own n o' q k2 hf GA BF
   ·have QW:=bg m o q k1 k2 GA
    have h0:=hR.own m o q k2 hf QW BF
    obtain⟨l1,l2⟩:=aAn m o q k1 k2 QW BF
    cases hx:Γc.fz q.blk with
    | none=>rfl
    | some a=>
     rcases h6.Lh _ _ hx with c1 | c1 | c1
     ·have c1':Γ.fz q.blk=some _:=c1
      simp_all
     ·omega
     trivial
  ·rcases hwh m o hm with ⟨n,o1,rfl,k2,k3,rfl⟩ | ⟨k1,k2⟩
   ·rw [F4] at GA
    rcases hwh m' o' hm' with ⟨n',o2,rfl,j2,j3,rfl⟩ | ⟨j1,j2⟩
    ·rw [F4] at QW
     exact h3.apart n o1 n' o2 q q' k2 j2 (fun e=>ES MLB) GA QW hf BF PZ
    ·exact hblk n o1 q m' o' q' k2 GA BF j1 j2 (bg _ _ _ j1 j2 QW) PZ (.inl hf) k3
   ·have aQY:=bg m o q k1 k2 GA
    rcases hwh m' o' hm' with ⟨n',o2,rfl,j2,j3,rfl⟩ | ⟨j1,j2⟩
    ·grind
    ·exact hR.apart m o m' o' q q' k2 j2 ES aQY (bg _ _ _ j1 j2 QW) hf BF PZ
  ·obtain⟨m,o,q,k1,k2,k3,k4,rfl⟩:=hk
   rcases hwh m o k1 with ⟨n,o1,rfl,j2,j3,rfl⟩ | ⟨j1,j2⟩
   ·rw [F4] at k3
    rcases h6.Wn q.blk ⟨n,o1,q,j2,k2,k3,k4,rfl⟩ with c1 | c1
    ·exact .inl c1
    simp_all
   ·exact .inr ⟨m,o,q,j2,k2,bg _ _ _ j1 j2 k3,k4,rfl⟩
  ·rcases h6.Lh k a hk with c1 | c1 | c1
   ·exact .inl c1
   ·omega
   simp_all
 have fin:∀ e w',Fs C (Γ.see (CW 0 ps n0 H.next) []) ⟨n0,L0⟩ w Q0 e w'->Fs C Γ0 H w Q e w':=by
  intro e w' hP
  obtain⟨e0,H',BU,k1,k2,k3⟩:=key e w' hP
  exact⟨e0,H',BU,k1,k2,hLm.trans (k3.mono hLm.2.2.1)⟩
 rcases h _ w args' lq.1 hA1 with ⟨h1,h2⟩ | ⟨v',w',h1,h2⟩
 ·exact .inl ⟨h1,h2.mono fin⟩
 grind
end
end Go.Proofs.YtkegmchjobphdaaGreatDoor.Y
namespace Go.Proofs.YtkegmchjobphdaaGreatDoor.Y
open Go
section
variable {C:Cx}
def aGN (C:Cx) (rs:List ResultVar) (n0:Nat) (u:Md) (Q:AE->Md->Hp->Prop):KQ:=fun e σ ds H=>
 match ds with
 | []=>match e with
  | .normal=>Wp C σ H rs fun vs=>Ux n0 (fun e H'=>Q e u H') (.returned (bq vs)) H
  | .ret=>Wp C σ H rs fun vs=>Ux n0 (fun e H'=>Q e u H') (.returned (bq vs)) H
  | .panic ch=>Ux n0 (fun e H'=>Q e u H') (.panicked ch) H
  | _=>False
 | _=>False
def dataM:Md->Bool
 | .ret=>true
 | .F7 ch=>ch.all fun p=>match p.v with
  | .p _=>true
  | _=>false
theorem aJg {a b:Gm} (hf:a.fz.le b.fz) {u:Md} (hu:dataM u=true) {m:FrameMode} (h:MR a u m):MR b u m:=by
 cases u with
 | ret=>exact h
 | F7 ch=>
  obtain⟨Gz,rfl,hc⟩:=h
  refine⟨Gz,rfl,?_⟩
  simp only [dataM] at hu
  induction ch generalizing Gz with
  | nil=>exact hc
  | cons p ps ih=>
   simp only [Ny] at hc ⊢
   obtain⟨q,qs,rfl,⟨h1,h2⟩,h3⟩:=hc
   simp only [jB,qC] at hu
   refine⟨q,qs,rfl,⟨?_,h2⟩,ih hu.2 qs h3⟩
   obtain⟨v,rc⟩:=p
   cases v <;> simp only [qV,false_and] at hu
   grind [VR,OO]
theorem sS {Γ:Gm} {H:Hp} {w:World} {Q:AE->Md->Hp->Prop} {u:Md} (hu:dataM u=true) {e':Ending} {m':FrameMode} {w':World} {e:AE} {H':Hp} {BU:Gm} (hq:Ux H.next (fun e H'=>Q e u H') e H') (hE:ER BU e e') (hM:MR BU u m') (hL:Au C H.next Γ H w BU H' w'):aGO C Γ H w Q e' m' w':=by
 obtain⟨e1,H1,Cq,k1,k2,k3⟩:=Fs.gc (C:=C) (Q:=fun e H'=>Q e u H') ⟨e,H',BU,hq,hE,hL⟩
 obtain⟨fs,ps,ni,e1,H1,hb,hEE,hH,hqq⟩:=hq
 simp only [qC] at hb
 obtain⟨⟨⟨b1,b2⟩,b3⟩,b4⟩:=hb
 have b2:=qp b2
 obtain⟨YT,e2,Rp⟩:=hL.1.mark b1
 have lq:=R.see (H1:=H1) (ρ:=CW H.next ps H1.next H'.next) Rp.1 hH (Kb b4) b3 (fun n h=>YU h) b2 (fun n h=>by rw [TF b2 h];show H'.next<=_;omega)
 exact⟨e1,u,H1,_,hqq,YV Rp.1 hEE (lu (Rp.le hL.1) hE),aJg (b:=YT.see (CW H.next ps H1.next H'.next) ni) (Rp.2.2.2.fz) hu hM,(hL.trans (Rp.mono hL.2.2.1)).trans lq⟩
def YW (C:Cx) (N:Nat) (all:List Oper):List Oper->Sg->Hp->(Sg->Prop)->Prop
 | [],σ,_,K=>K σ
 | o::r,σ,H,K=>match gd all o σ with
  | some true=>(pop C.P o.op (Ci C σ) (Aq H.l)).bu fun v=>Rs N o.dst σ v fun σ'=>YW C N all r σ' H K
  | some false=>Rs N o.dst σ Bv fun σ'=>YW C N all r σ' H K
  | none=>False
def Rt:Md->AV × Md
 | .F7 (⟨v,false⟩::r)=>(v, .F7 (⟨v,true⟩::r))
 | u=>(.p .nilIface,u)
def isRec:Op->Bool
 | .call { callee:=.builtin .recover, .. }=>true
 | _=>false
theorem aD6 {Γ:Gm} {u:Md} {c₀:Frame} {cs:List Frame} (h:MR Γ u c₀.mode):∃ v' m',(match recoverD (c₀::cs) with | some (v,Dt)=>(v,Dt) | none=>(.nilIface,c₀::cs))=(v',{ c₀ with mode:=m' }::cs)/\VR Γ (Rt u).1 v'/\MR Γ (Rt u).2 m':=by
 cases u with
 | ret=>
  simp only [MR] at h
  refine⟨.nilIface,c₀.mode,?_,by rfl,MDL⟩
  simp only [recoverD,h]
  rw [<- h]
 | F7 ch=>
  obtain⟨Gz,hm,hc⟩:=h
  match ch,hc with
  | [],hc=>
   simp only [Ny] at hc
   subst hc
   refine⟨.nilIface,c₀.mode,?_,by rfl,⟨[],hm,rfl⟩⟩
   simp only [recoverD,hm]
   rw [<- hm]
  | ⟨v,true⟩::r,hc=>
   have Wi:=hc
   simp only [Ny] at hc
   obtain⟨⟨qv,qr,qg⟩,qs,rfl,⟨h1,h2,h3⟩,h4⟩:=hc
   simp only at h2
   subst h2
   refine⟨.nilIface,c₀.mode,?_,by rfl,⟨_,hm,Wi⟩⟩
   simp only [recoverD,hm]
   rw [<- hm]
  | ⟨v,false⟩::r,hc=>
   simp only [Ny] at hc
   obtain⟨⟨qv,qr,qg⟩,qs,rfl,⟨h1,h2,h3⟩,h4⟩:=hc
   simp only at h2 h3
   subst h2;subst h3
   refine⟨qv, .panicking ({ v:=qv,recovered:=true }::qs),?_,h1,⟨_,rfl,?_⟩⟩
   ·grind [recoverD]
   ·simp only [Ny]
    exact⟨_,qs,rfl,⟨h1,rfl,rfl⟩,h4⟩
theorem YX {ops:Array Oper} {Q:Exit->Act->List Frame->World->Prop} {N:Nat} {Γ:Gm} {H:Hp} {w:World} {cs:List Frame} (hR:R C Γ H w) {K:Sg->Prop} (hK:∀ σ' a',K σ'->SR none Γ σ' [] N a'->Q .normal a' cs w) :
  ∀ (rest pre:List Oper) (σ:Sg) (a:Act),ops.toList=pre++rest->SR none Γ σ [] N a->YW C N ops.toList rest σ H K->wpOpsSIn (Fz none) 0 C.P ops Q (List.range' pre.length rest.length) a cs w
 | [],pre,σ,a,_,hS,hv=>by
  simp only [qy,List.range'_zero,wpOpsSIn]
  exact hK σ a hv hS
 | o::rest,pre,σ,a,aGP,hS,hv=>by
  have hi:ops[pre.length]?=some o:=by
   rw [<- kJ,aGP]
   simp
  simp only [qR,jw,wpOpsSIn,hi]
  refine⟨fun _ _=>trivial,?_⟩
  have ih:=YX (ops:=ops) (Q:=Q) hR hK rest (pre++[o])
  simp only [qD,qR,qy,ql] at ih
  have sU:ops.toList=(pre++[o])++rest:=by rw [aGP];simp
  have go:∀ (v:AV) (v':Value),Rs N o.dst σ v (fun σ'=>YW C N ops.toList rest σ' H K)->VR Γ v v'->wpOpsSIn (Fz none) 0 C.P ops Q (List.range' (pre.length+1) rest.length) (a.put o.dst v') cs w:=by
   intro v v' hp hvv
   cases hd:o.dst with
   | none=>rw [hd] at hp;exact ih σ _ sU hS hp
   | some d=>
    rw [hd] at hp
    obtain⟨hdN,hp⟩:=Uy hp
    exact ih (bI σ d v) _ sU (hS.put (Gm.le_refl _) hvv hS.df hdN) hp
  simp only [YW] at hv
  split at hv
  ·rename_i hg
   rw [JY hS hg]
   simp only [jv]
   obtain⟨v,hy,hk⟩:=Ba.YY hv
   obtain⟨v',h1,h2⟩:=KE hR (NQ hR hS) o hy
   grind
  ·rename_i hg
   rw [JY hS hg]
   simp only [qV,jh]
   exact go Bv undef hv (IQ Γ)
  ·exact hv.elim
theorem holdsD_rec {f : FuncId} {fn : Func} {id : Nat} {o : Oper} {ops : List Oper} {c2 : Code} {args : List AV} {u : Md} {H : Hp} {Q : AE -> Md -> Hp -> Prop} (hf : C.P.funcs[f]? = some fn) (hname : (fn.name == "runtime.NumGoroutine") = false) (hb : fn.body = some (.seq (.region id ⟨o :: ops⟩ false) c2))
  (hN:(Nat.ble args.length fn.ntmps && isRec o.op && o.guard.isNone && dataM u && noRange c2)=true)
  (hv:Rs fn.ntmps o.dst (Bh (fun _=>Bv) (Ru 0 args)) (Rt u).1 fun σ=>YW C fn.ntmps (o::ops) ops σ H fun σ'=>vc C none H.next fn.ntmps c2 σ' [] H (aGN C fn.results.toList H.next (Rt u).2 Q)):Pd C f args u H Q:=by
 intro Γ w args' m hR hA hM
 simp only [qC] at hN
 obtain⟨⟨⟨⟨n1,n2⟩,n3⟩,n4⟩,n5⟩:=hN
 have aLx:dataM (Rt u).2=true:=by
  cases u with
  | ret=>rfl
  | F7 ch=>
   match ch,n4 with
   | [],_=>rfl
   | ⟨v,true⟩::r,n4=>exact n4
   | ⟨v,false⟩::r,n4=>exact n4
 refine⟨run_enter hf hname hb _ _,trivial,fun c₀ cs hu _=>?_⟩
 let b:Frame:={ (default:Frame) with fn:=f,kind:=.deferred,roundOf:=none }
 have hbf:(C.P.funcs[b.fn]?).isSome=true:=MJu
 have Uz:Frame.enter C.P f ⟨args'⟩ .deferred=b.atR { tmps:=(⟨args'⟩:Array Value)++Array.replicate (fn.ntmps - args'.length) undef,defers:=[] } [.code (.seq (.region id ⟨o::ops⟩ false) c2)]:=by
  simp [Frame.enter,Frame.atR,hf,hb,b]
 have hS:=sV (df0:=none) rfl (n:=fn.ntmps) hA (qp n1)
 obtain⟨v',m',DT,hvr,hmr⟩:=aD6 (Γ:=Γ) (u:=u) (c₀:=c₀) (cs:=cs) (by rw [hu];exact hM)
 -- the first region
 have aQW:wpOpsSIn (Fz none) 0 C.P ⟨o::ops⟩ (fun e a1 cs1 w1=>e=.normal/\cs1={ c₀ with mode:=m' }::cs/\w1=w/\∃ σ',SR none Γ σ' [] fn.ntmps a1/\vc C none H.next fn.ntmps c2 σ' [] H (aGN C fn.results.toList H.next (Rt u).2 Q)) (List.range (o::ops).length) { tmps:=(⟨args'⟩:Array Value)++Array.replicate (fn.ntmps - args'.length) undef,defers:=[] } (c₀::cs) w:=by
  rw [vG,qR,jw]
  have hi:(⟨o::ops⟩:Array Oper)[0]?=some o:=rfl
  simp only [wpOpsSIn,hi]
  refine⟨fun _ _=>trivial,?_⟩
  have hg:Region.wanted o (yielded ⟨o::ops⟩ ((⟨args'⟩:Array Value)++Array.replicate (fn.ntmps - args'.length) undef))=true:=by
   unfold Region.wanted
   cases hgd:o.guard with
   | none=>rfl
   | some g=>simp_all
  simp only [hg,jv]
  have hex:∀ ev:Operand->Value,(execOp ev o).run C.P w=.ok .recover w:=by
   intro ev
   obtain⟨dst,op,ty,pos,af,gu⟩:=o
   simp only at n2
   unfold isRec at n2
   split at n2
   ·rfl
   ·cases n2
  rw [hex]
  simp only
  have PW:∀ σ',(match o.dst with | none=>σ'=Bh (fun _=>Bv) (Ru 0 args) | some d=>d<fn.ntmps/\σ'=bI (Bh (fun _=>Bv) (Ru 0 args)) d (Rt u).1)->SR none Γ σ' [] fn.ntmps (({ tmps:=(⟨args'⟩:Array Value)++Array.replicate (fn.ntmps - args'.length) undef,defers:=[] }:Act).put o.dst v'):=by
   intro σ' h
   cases hd:o.dst with
   | none=>rw [hd] at h;simp only at h;subst h;exact hS
   | some d=>rw [hd] at h;obtain⟨h1,rfl⟩:=h;exact hS.put (Gm.le_refl _) hvr hS.df h1
  have hv':∃ σ',(match o.dst with | none=>σ'=Bh (fun _=>Bv) (Ru 0 args) | some d=>d<fn.ntmps/\σ'=bI (Bh (fun _=>Bv) (Ru 0 args)) d (Rt u).1)/\YW C fn.ntmps (o::ops) ops σ' H fun σ'=>vc C none H.next fn.ntmps c2 σ' [] H (aGN C fn.results.toList H.next (Rt u).2 Q):=by
   cases hd:o.dst with
   | none=>rw [hd] at hv;exact⟨_,rfl,hv⟩
   | some d=>
    rw [hd] at hv
    obtain⟨h1,h2⟩:=Uy hv
    simp_all
  obtain⟨σ',h1,h2⟩:=hv'
  have:=YX (C:=C) (ops:=⟨o::ops⟩) (Q:=fun e a1 cs1 w1=>e=.normal/\cs1={ c₀ with mode:=m' }::cs/\w1=w/\∃ σ',SR none Γ σ' [] fn.ntmps a1/\vc C none H.next fn.ntmps c2 σ' [] H (aGN C fn.results.toList H.next (Rt u).2 Q)) (cs:={ c₀ with mode:=m' }::cs) hR
   (fun σ' a' hk hs=>⟨rfl,rfl,rfl,σ',hs,hk⟩) ops [o] σ' _ rfl (PW σ' h1) h2
  simp only [qR,qy,ql] at this ⊢
  cases Wq:recoverD (c₀::cs) with
  | none=>
   grind
  | some p=>
   simp_all
 obtain⟨e1,a1,cs1,w1,_,⟨he1,aQX,hw1,Wo,hS1,hv1⟩,aOX⟩:=wpSIn_region (F:=Fz none) (n:=0) (id:=id) aQW b [.code c2] rfl rfl trivial (TG _ _)
 subst he1;subst aQX;subst hw1
 have s0:StepsIn (Machine.fenced C.P (Fz none)) C.P (lone (Frame.enter C.P f ⟨args'⟩ .deferred) (c₀::cs) w1) (lone (b.atR a1 [.code c2]) ({ c₀ with mode:=m' }::cs) w1):=by
  rw [Uz]
  exact .head (BO _) stepR_seq aOX
 obtain⟨e2,a2,w2,⟨e,σ2,ds2,H2,YT,YZ,sZ,hS2,Rp⟩,TH⟩:=GV (r:=false) (B:=fun _=>True) (rn:=none) (n0:=H.next) hbf c2 (by simpa using n5) Wo [] H _ Γ a1 w1 (qN _) rfl hR ⟨none,hS1,MF3⟩ hv1 [] ({ c₀ with mode:=m' }::cs)
 have hle:=Rp.le hR
 have aOY:=aJh hle hmr
 unfold aGN at YZ
 split at YZ <;> try exact YZ.elim
 obtain⟨df2,hS2,aMg⟩:=hS2
 have p8:=hS2.df
 have hdn:df2=none:=MIF
 subst hdn
 simp only [Uh,Option.getD_none] at p8
 have ret:∀ (fr:Frame),fr={ b.atR a2 [] with mode:=.returning }∨(∃ todo,fr={ b.atR a2 todo with mode:=.returning })->Wp C σ2 H2 fn.results.toList (fun vs=>Ux H.next (fun e H'=>Q e (Rt u).2 H') (.returned (bq vs)) H2) ->
   StepsIn (Machine.fenced C.P (Fz none)) C.P (lone (b.atR a1 [.code c2]) ({ c₀ with mode:=m' }::cs) w1) (lone fr ({ c₀ with mode:=m' }::cs) w2) ->
   ∃ e u' w' fr,aGO C Γ H w1 Q e u' w'/\ComesIn (Machine.fenced C.P (Fz none)) C.P (lone (Frame.enter C.P f ⟨args'⟩ .deferred) (c₀::cs) w1) (lone fr ({ c₀ with mode:=u' }::cs) w') e/\fr.kind=.deferred/\fr.fn=f/\fr.going C.P w' e:=by
  intro fr Ea hr hs
  obtain⟨vs,vs',k1,k2,k3⟩:=OP Rp.1 hS2 hr
  refine⟨.returned (GG vs'),m',w2,fr,sS aLx k1 ⟨_,rfl,aGQ k2⟩ aOY Rp,StepsIn.trans s0 hs,?_,?_,?_⟩
  ·rcases Ea with rfl | ⟨todo,rfl⟩ <;> rfl
  ·rcases Ea with rfl | ⟨todo,rfl⟩ <;> rfl
  ·rcases Ea with rfl | ⟨todo,rfl⟩ <;> exact⟨rfl,p8,fn,hf,Vz k3⟩
 cases e with
 | normal=>
  simp only [XR] at sZ;subst sZ
  exact ret _ (.inl rfl) YZ (StepsIn.trans TH (.one (BO _) (stepR_end rfl)))
 | ret=>
  simp only [XR] at sZ;subst sZ
  obtain⟨todo,hs⟩:=TH.1 rfl
  exact ret _ (.inr ⟨todo,rfl⟩) YZ hs
 | panic ch=>
  simp only [XR] at sZ
  obtain⟨Gz,rfl,hp⟩:=sZ
  obtain⟨todo,hs⟩:=TH
  exact⟨.panicked Gz,m',w2,_,sS aLx YZ MGR aOY Rp,StepsIn.trans s0 hs,rfl,rfl,rfl,p8,fn,hf⟩
 | exit i=>exact YZ.elim
 | goto i=>exact YZ.elim
end
end Go.Proofs.YtkegmchjobphdaaGreatDoor.Y
namespace Go.Proofs.YtkegmchjobphdaaGreatDoor.Y
open Go
def aLu (P:Program):Op->Bool
 | .alloc _ | .box _ _ | .store _ _ _ | .buildSlice _ _ _ | .makeSlice _ _ _ | .defer _ | .panic _=>true
 | .call { callee:=.value _, .. }=>true
 | .call { callee:=.invoke _ _, .. }=>true
 | .call { callee:=.builtin .append, .. }=>true
 | .call { callee:=.builtin .copy, .. }=>true
 | .call { callee:=.builtin .unsafeSliceData, .. }=>true
 | .call { callee:=.builtin .unsafeString, .. }=>true
 | .convert _ d _=>match P.underlying d with
  | some (.slice _)=>true
  | _=>false
 | _=>false
def TC (p:Nat->Oper->Bool):Nat->List Oper->Option Nat
 | _,[]=>none
 | i,o::r=>match p i o with
  | true=>some i
  | false=>TC p (i+1) r
def lZ (P:Program) (ms:List Nat) (all:List Oper):Nat->List Nat->List Nat->OT
 | 0,_,_=>.fin
 | f+1,Nw,pu=>match TC (fun i o=>!D6 i Nw && (!aLu P o.op && sQ (YQ o) Nw)) 0 all with
  | some i=>.pure i (lZ P ms all f (i::Nw) (match Du all i with
   | some o=>match Fp o.op with
    | true=>i::pu
    | false=>pu
   | none=>pu))
  | none=>match TC (fun i o=>!D6 i Nw && sQ (YQ o) Nw) 0 all with
   | some i=>.A8 i (pu.filter fun k=>!(Lg ms i).testBit k) (lZ P ms all f (i::Nw) pu) .nil
   | none=>.fin
def aLv (P:Program) (ms:List Nat) (all:List Oper) (_:Nat) (_:List Nat):OT:=lZ P ms all all.length [] []
def TD (p:Nat->Oper->Bool):Nat->List Oper->List Nat
 | _,[]=>[]
 | i,o::r=>match p i o with
  | true=>i::TD p (i+1) r
  | false=>TD p (i+1) r
def aCJ (P:Program) (ms:List Nat) (all:List Oper):Nat->List Nat->List Nat->OT
 | 0,_,_=>.fin
 | f+1,Nw,pu=>match TC (fun i o=>!D6 i Nw && (!aLu P o.op && sQ (YQ o) Nw)) 0 all with
  | some i=>.pure i (aCJ P ms all f (i::Nw) (match Du all i with
   | some o=>match Fp o.op with
    | true=>i::pu
    | false=>pu
   | none=>pu))
  | none=>match TD (fun i o=>!D6 i Nw && sQ (YQ o) Nw) 0 all with
   | []=>.fin
   | es=>es.foldr (fun i t=>.A8 i (pu.filter fun k=>!(Lg ms i).testBit k) (aCJ P ms all f (i::Nw) pu) t) .nil
theorem FI.seq {C : Cx} {rd : Bool} {n0 N : Nat} {all : List Oper} {σ : Sg} {ds : List AD} {H : Hp} {K : Sg -> List AD -> Hp -> Prop} {X : List AP -> Sg -> List AD -> Hp -> Prop}
    (h : (C.P.follows .mixedOrders && FN N all (Cr all []) && JB all (Cr all []) (aLv C.P (Cr all []) all 0 []) [] [] []) = true)
    (hv : vD C rd all σ K X (aLv C.P (Cr all []) all 0 []) [] ds H) :
    ∃ ot, (C.P.follows .mixedOrders && FN N all (Cr all []) && JB all (Cr all []) ot [] [] []) = true /\
    ((vD C rd all σ K X ot [] ds H) ∨
     ∃ (α : Type) (sl : α -> List (Nat × AV)) (hp : α -> Hp) (pr : α -> Prop),
      vD C rd all σ (fun σ' CS H' => ∃ x, pr x /\ O9 C n0 N σ' CS H' (Bh (fun _ => .junk) (sl x)) ds (hp x)) X ot [] ds H /\
      ∀ x, pr x -> K (Bh (fun _ => .junk) (sl x)) ds (hp x)) := ⟨_, h, .inl hv⟩
theorem FI.aLw {C : Cx} {rd : Bool} {n0 N : Nat} {all : List Oper} {σ : Sg} {ds : List AD} {H : Hp} {K : Sg -> List AD -> Hp -> Prop} {X : List AP -> Sg -> List AD -> Hp -> Prop} (sl : List (Nat × AV)) (hp : Hp)
    (h : (C.P.follows .mixedOrders && FN N all (Cr all []) && JB all (Cr all []) (aCJ C.P (Cr all []) all all.length [] []) [] [] []) = true)
    (hv : vD C rd all σ (fun σ' CS H' => O9 C n0 N σ' CS H' (Bh (fun _ => .junk) sl) ds hp) X (aCJ C.P (Cr all []) all all.length [] []) [] ds H) (hk : K (Bh (fun _ => .junk) sl) ds hp) :
    ∃ ot, (C.P.follows .mixedOrders && FN N all (Cr all []) && JB all (Cr all []) ot [] [] []) = true /\
    ((vD C rd all σ K X ot [] ds H) ∨
     ∃ (α : Type) (sl : α -> List (Nat × AV)) (hp : α -> Hp) (pr : α -> Prop),
      vD C rd all σ (fun σ' CS H' => ∃ x, pr x /\ O9 C n0 N σ' CS H' (Bh (fun _ => .junk) (sl x)) ds (hp x)) X ot [] ds H /\
      ∀ x, pr x -> K (Bh (fun _ => .junk) (sl x)) ds (hp x)) :=
  ⟨_, h, .inr ⟨Unit, fun _ => sl, fun _ => hp, fun _ => True, by
    simp_all, fun _ _ => hk⟩⟩
theorem AL {Q:PEnd->Prop} {v:AV} {H':Hp} (x:PV) (hm:CV H'.l (TE H'.l)=true) (hr:GH (marks H'.l (TE H'.l)) 5 v x) (hq:Q (.ret [x])):YJ Q (.returned v) H':=⟨.ret [x],⟨hm,v,rfl,hr⟩,hq⟩
theorem Gy {Q:PEnd->Prop} {v1 v2:AV} {H':Hp} (x1 x2:PV) (hm:CV H'.l (TE H'.l)=true) (h1:GH (marks H'.l (TE H'.l)) 5 v1 x1) (h2:GH (marks H'.l (TE H'.l)) 5 v2 x2) (hq:Q (.ret [x1,x2])):YJ Q (.returned (.GG [v1,v2])) H':=
 ⟨.ret [x1,x2],⟨hm,_,rfl,_,_,rfl,h1,_,_,rfl,h2,rfl⟩,hq⟩
variable {C:Cx}
theorem Pure.eq {g:FuncId} {pargs:List PV} {r:PEnd} {args:List AV} {H:Hp} {Q':AE->Hp->Prop} (h:Pure C g pargs (·=r)) (ha:args=pargs.map .p) (hQ:Q' (Rl r) H):Holds C g args H Q':=by
 subst ha
 exact h.at fun r' e=>by subst e;exact hQ
theorem Pure.aCK {g:FuncId} {pargs:List PV} {r:PEnd} {args:List AV} {H:Hp} {Q':AE->Hp->Prop} (h:Pure C g pargs (·=r)) (fs:List Nat) (hm:(CV H.l fs && fC r)=true) (ha:EJ (GH (marks H.l fs) 5) args pargs) (hQ:Q' (Rl r) H):Holds C g args H Q':=by
 simp only [qC] at hm
 exact h.aQU fs hm.1 ha fun r' e=>MAe
theorem Pure.aQV {g:FuncId} {pargs:List PV} {r:PEnd} {args:List AV} {H:Hp} {Q':AE->Hp->Prop} (h:Pure C g pargs (·=r)) (fs:List Nat) (hm:CV H.l fs=true) (ha:EJ (GH (marks H.l fs) 5) args pargs) (hQ:Q' (Rl r) (H.TA fs)):Holds C g args H Q':=
 h.use fs hm ha fun r' e=>by subst e;exact hQ
def Ro (L:Nat) (σ:Sg) (ds:List AD) (Q:KQ) (e:AE) (H':Hp):Prop:=match e with
  | .returned _=>match Aq H'.l L with
   | some o=>match o.c with
    | .lp st E5 lim n a b c d dn=>match st with
     | .busy=>False
     | _=>YR E5 Q σ ds { H' with l:=DJ H'.l L { o with c:=.lp .exhausted E5 lim n a b c d dn } }
    | _=>False
   | none=>False
  | .panicked ch=>Q (.panic ch) σ ds H'
theorem NN {N:Nat} {g:FuncId} {first cap:List AV} {σ:Sg} {ds:List AD} {H:Hp} {params:Array Tmp} {Fq bd:Code} {Q:KQ}
  (h:∀ (σ':Sg) (ps:List Tmp) (G8 bd':Code),σ=σ'->params.toList=ps->Fq=G8->bd=bd'->A7 C g (first++[.fn (.yield (H.next+1)) [] []]++cap) ((H.push ⟨0,false, .df⟩).push ⟨0,false, .lp .ready none H.next N σ' ps G8 bd' H.next⟩) (Ro (H.next+1) σ ds Q)) :
  A7 C g (first++[.fn (.yield (H.next+1)) [] []]++cap) ((H.push ⟨0,false, .df⟩).push (J7 H.next σ N params Fq bd H.next)) (Ro (H.next+1) σ ds Q):=h _ _ _ _ rfl rfl rfl rfl
theorem LB {n0 N:Nat} {σ:Sg} {ds:List AD} {H H1:Hp} {l:List (Nat × AV)} (hb:(Nat.ble n0 H1.next && NL (CW n0 [] H1.next H.next) [] H1.l)=true) (hS:lh (CW n0 [] H1.next H.next) [] H.l σ l) (hH:Uw (CW n0 [] H1.next H.next) [] H.l n0 H1.l) (hD:YS (CW n0 [] H1.next H.next) [] H.l ds ds) :
  O9 C n0 N σ ds H (Bh (fun _=>.junk) l) ds H1:=by
 simp only [qC] at hb
 exact AA [] [] [] (by grind [CV,aD5]) hS hH hD
theorem ll {α:Type}:∀ (l:List α) (n:Nat),nth l n=l[n]?
 | [],n=>by cases n <;> rfl
 | _::_,0=>rfl
 | _::l,n+1=>ll l n
theorem aGM {P:Program} {t:TypeId} {cs:List PV} {f:Nat} {v:PV} (h:NP P t=some none) (hv:cs[f]?=some v):Ka P t cs f=some v:=by
 grind [Ka,ll]
theorem Pb {P:Program} {t:TypeId} {cs:List AV} {f:Nat} {v:AV} (h:NP P t=some none) (hv:cs[f]?=some v):G9 P t cs f=some v:=by
 grind [G9,ll]
theorem aOW {n:Int} (h0:0<=n) (h1:n<256):n=IntKind.u8.wrap n:=by
 exact MGM
theorem AB {α:Type} {l:List α} {n:Nat} (h:l.length=n):l=(l.drop 0).take n:=by grind
end Go.Proofs.YtkegmchjobphdaaGreatDoor.Y
