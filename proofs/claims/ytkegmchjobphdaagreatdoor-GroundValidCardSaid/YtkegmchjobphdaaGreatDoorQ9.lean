/- Part 9 of the proof: Fe Ff Qd Qe Dn Np Nq Nqa Gb Gc Gd Gf Gg Gh Ge Gi Ej Ea Eb Ec Ed Ex Ef Eg Do Nf Ng Nh Nj Ne -/
import Derived.Test.YtkegmchjobphdaaGreatDoorQ8
namespace Go.Proofs.YtkegmchjobphdaaGreatDoor
open Go Y
set_option maxRecDepth 100000
set_option maxHeartbeats 40000000
def ofN (l:List Nat):List Int:=l.map (fun (v:Nat)=>(v:Int))
theorem Xj (l:List Nat):(ofN l).length=l.length:=qB ..
theorem aH1 (l:List Nat) (v:Nat):ofN (l++[v])=ofN l++[(v:Int)]:=by simp [ofN]
theorem aH0 (par:List Nat) (hn:par.length<=60) (hp:aHX par):Pure cx 82 [wh par] fun r=>(iI par/\∃ l:List Int,r=.ret [Gh l, .bool true])∨(¬ iI par/\r=.ret [.Ad, .bool false]):=by
 refine pure_of_vc Tryz.func82 rfl rfl rfl ?_
 have h64:2 ^ par.length<18446744073709551616:=Zr ME
 refine⟨by show(0:Int)<=0/\(0:Int)<=((par.map u64).length:Nat)/\(((par.map u64).length:Nat):Int) * 8<=281474976710656/\(((par.map u64).length:Nat):Int)<=281474976710656;rw [qB];omega,?_⟩
 refine⟨List Nat × Nat,fun x=>[(0, .p (wh par)),(4, .sl 0 1 0 x.1.length),(5, .p (u64 x.2))],fun x=>⟨1,[(0,iO5 (ofN x.1))]⟩,fun x=>Srt par x.1 x.2,fun x=>par.length - x.1.length,?_,?_⟩
 ·exact⟨([],0),Srt.zero par,AA [] [] [] rfl (sk) ⟨MAv,trivial⟩ rfl⟩
 rintro⟨l,d⟩ g
 simp only [] at g
 have hd:=jr g.lt h64
 have hll:=g.len
 have IL:=Xd par.length d
 refine qA (fun h1=>?_) (fun h1=>?_)
 ·have h1:(l.length:Int)<((par.map u64).length:Nat):=h1
  rw [qB] at h1
  refine⟨Nat,fun v=>[(0, .p (wh par)),(4, .sl 0 1 0 l.length),(5, .p (u64 d)),(16, .p (wh par)),(17, .p (i64 par.length)),(18, .p (i64 v))],fun _=>⟨1,[(0,iO5 (ofN l))]⟩,fun v=>v<=par.length/\∀ u,u<v->¬ iK par d u,fun v=>par.length - v,?_,?_⟩
  ·exact⟨0,⟨by omega,fun u hu=>by omega⟩,AA [] [] [] rfl ⟨rfl,rfl,rfl,rfl,aBP u64 par,rfl,trivial⟩ (sk) rfl⟩
  rintro v ⟨v1,v2⟩
  refine qA (fun h2=>?_) (fun h2=>?_)
  ·have h2:(v:Int)<(par.length:Nat):=h2
   have hv:v<par.length:=by omega
   have hpv:=jr (hp v hv) h64
   have next:¬ iK par d v->∀ u,u<v+1->¬ iK par d u:=fun h u hu=>by
    rcases xB u v with hh | hh
    ·exact v2 u hh
    ·have:u=v:=by omega
     subst this;exact h
   refine⟨_,⟨by omega,u64 (PR par v),aHY hv,rfl⟩,?_⟩
   refine⟨by show(0:Int)<=v;omega,?_⟩
   refine⟨_,(Zq (k:=v) hd).trans (by rw [<- Xc (show v<64 by omega)];rfl),?_⟩
   refine qA (fun h3=>?_) (fun h3=>?_)
   ·have hb:d.testBit v=false:=by
     cases e:d.testBit v
     ·rfl
     ·rw [e] at h3;exact absurd h3 ML
    refine⟨_,rfl,?_⟩
    refine qA (fun h4=>?_) (fun h4=>?_)
    ·have h4:=(WN hpv hd).1 h4
     have hf:iK par d v:=⟨hb,h4⟩
     have g':=g.next hv hf
     refine⟨MO,[i64 v],rfl,?_⟩
     refine⟨MI0,(ofN l).map i64,AB (by simp [Xj]),by show(l.length+1) * 8<=140737488355328;omega,(ofN (l++[v])).map i64,by rw [aH1,qX];rfl,?_⟩
     refine⟨by show(0:Int)<=v;omega,_,aCr (k:=v) ME,?_⟩
     refine⟨_,aHa (b:=2 ^ v) hd (Zr ME),?_⟩
     refine⟨(l++[v],d ||| 2 ^ v),g',AA [] [(0,2)] [] rfl ⟨rfl,qH (fun m=>AV.sl 2 1 0 m) (Qp l v).symm,rfl,trivial⟩ ⟨MAv,trivial⟩ rfl,?_⟩
     show par.length - (l++[v]).length<par.length - l.length
     rw [Qp];omega
    ·refine MAs ?_
     exact⟨v+1,⟨by omega,next fun h=>h4 ((WN hpv hd).2 h.2)⟩,AA [] [] [] rfl (sk) (sk) rfl,MJm⟩
   ·refine MAs ?_
    exact⟨v+1,⟨by omega,next fun h=>by rw [h.1] at h3;exact h3 rfl⟩,AA [] [] [] rfl (sk) (sk) rfl,MJm⟩
  ·have h2:¬ (v:Int)<(par.length:Nat):=h2
   exact Gy .Ad (.bool false) rfl (.inl rfl) rfl (.inr ⟨g.stuck hp MBc fun u hu=>v2 u ME,rfl⟩)
 ·have h1:¬ (l.length:Int)<((par.map u64).length:Nat):=h1
  rw [qB] at h1
  refine Gy (Gh (ofN l)) (.bool true) rfl ⟨_,rfl,MI0,AB (by simp [Xj])⟩ rfl (.inl ⟨g.done ME,_,rfl⟩)
def yE:List PV:=[i64 0, .Ad, .Ad, .Ad, .Ad]
def zwO:Ag:=⟨TW,false, .bx (yE.map .p)⟩
def nwS (n:SI):Ag:=⟨TW,false, .bx [.p (i64 n.BS), .p (.Ai 3 (n.nodes.map EU.cells)), .sl 2 1 0 n.nodes.length, .sl 3 1 0 n.nodes.length, .p .Ad]⟩
def aBV (n:SI) (cs:List Int) (ss:List Nat):List (Nat × Ag):=[(4,nwS n),(3,uO ss),(2,iO5 cs),(1,zwO),(0,ntO n)]
def FM {α:Type} (z:α) (l:List α) (k:Nat):List α:=l.take k++List.replicate (l.length - k) z
theorem UI {α:Type} {z:α} {l:List α} {k:Nat} (h:k<=l.length):(FM z l k).length=l.length:=by
 rw [FM,qD,qj,kz];omega
theorem FC {α:Type} {z:α} {l:List α}:FM z l 0=List.replicate l.length z:=by simp [FM]
theorem yF {α:Type} {z:α} {l:List α}:FM z l l.length=l:=by simp [FM]
theorem yG {α:Type} {z:α} {l:List α} {k:Nat} (h:k<l.length):(FM z l k).set k (l.getD k z)=FM z l (k+1):=by
 have hk:(l.take k).length=k:=MEM
 rw [FM,FM,FB z h,List.set_append_right _ _ ME,hk,jZ,show l.length - k=(l.length - (k+1))+1 by omega,xk,List.set_cons_zero,qO]
 rfl
theorem aHz {α:Type} {z:α} {l:List α} {k:Nat} (h:k<l.length):(FM z l k).getD k z=z:=by
 have hk:(l.take k).length=k:=MEM
 rw [FM,qK,xA ME,hk,jZ,show l.length - k=(l.length - (k+1))+1 by omega,xk]
 rfl
theorem aKk {n:SI} (h:KU n) {v:Nat} (hv:v<n.nodes.length):(v:Int) ∉ (n.nodes.getD v Ld).parents:=by
 intro hm
 obtain⟨KV,hr⟩:=h.aO3
 have hl:(CF n).length=n.nodes.length:=qB ..
 have hp:=h.aHU _ (EK Ld hv)
 have hb:(PR (CF n) v).testBit v=true:=by
  rw [PR,CF,getD_map Ld 0 hv]
  exact(aB4 fun p Q6=>(Ni hp p Q6).1).2 hm
 have:=hr v MBc v ME hb
 omega
theorem aKl (n:SI) (hb:aJO n):Pure cx 46 [n.pv] fun r=>(KU n/\∃ l:List Int,r=.ret [.agg (Qr n (CF n) (Gh l)),i64 0])∨(¬ KU n/\r=.ret [.agg yE,i64 50]):=by
 refine pure_of_vc Tryz.func46 rfl rfl rfl ?_
 have no:¬ KU n->(KU n/\∃ l:List Int,PEnd.ret [.agg yE,i64 50]=.ret [.agg (Qr n (CF n) (Gh l)),i64 0])∨(¬ KU n/\PEnd.ret [.agg yE,i64 50]=.ret [.agg yE,i64 50]):=fun h=>.inr ⟨h,rfl⟩
 have IL:(BX n).length=n.nodes.length:=qB ..
 have Ta:(CF n).length=n.nodes.length:=qB ..
 refine qA (fun h1=>?_) (fun h1=>?_)
 ·exact Gy (.agg yE) (i64 50) rfl rfl rfl (no fun h=>by have:=h.BS;have h1:n.BS<1:=h1;omega)
 have h1:¬ n.BS<1:=h1
 refine qA (fun h2=>?_) (fun h2=>?_)
 ·exact Gy (.agg yE) (i64 50) rfl rfl rfl (no fun h=>by have:=h.BS;have h2:60<n.BS:=h2;omega)
 have h2:¬ 60<n.BS:=h2
 refine qA (fun h3=>?_) (fun h3=>?_)
 ·have h3:((n.nodes.map EU.cells).length:Int)<1:=h3
  rw [qB] at h3
  exact MIg
 have h3:¬ ((n.nodes.map EU.cells).length:Int)<1:=h3
 rw [qB] at h3
 refine qA (fun h4=>?_) (fun h4=>?_)
 ·have h4:(8:Int)<((n.nodes.map EU.cells).length:Nat):=h4
  rw [qB] at h4
  exact MIg
 have h4:¬ (8:Int)<((n.nodes.map EU.cells).length:Nat):=h4
 rw [qB] at h4
 refine FI.aLw [(1, .ptr 0 0 0),(2, .ptr 1 0 0),(4, .ptr 4 0 0)] ⟨5,aBV n (FM 0 (BX n) 0) (FM 0 (CF n) 0)⟩ rfl ?_ ?_
 ·refine And.intro ?_ (And.intro ?_ ?_)
  ·refine MN ?_
   refine⟨sk,?_⟩
   refine And.intro ?_ ?_
   ·refine MN ?_
    refine⟨sk,?_⟩
    refine⟨sk,?_⟩
    refine AA [] [] [] rfl MD2 ⟨⟨_,rfl,rfl,rfl,_,rfl,_,_,rfl,rfl,_,_,rfl,A9 _ _,_,_,rfl,qH (fun m=>AV.sl 2 1 0 m) (qB ..),_,_,rfl,qH (fun m=>AV.sl 3 1 0 m) (qB ..),_,_,rfl, .inl rfl,rfl⟩,⟨_,rfl,rfl,rfl,?_⟩,⟨_,rfl,rfl,rfl,?_⟩,MCU,MBo,trivial⟩ rfl
    ·exact MCF
    ·exact MCG
   ·refine⟨sk,?_⟩
    refine MN ?_
    refine⟨sk,?_⟩
    refine AA [] [(3,4),(4,3)] [] rfl MD2 ⟨⟨_,rfl,rfl,rfl,_,rfl,_,_,rfl,rfl,_,_,rfl,A9 _ _,_,_,rfl,qH (fun m=>AV.sl 2 1 0 m) (qB ..),_,_,rfl,qH (fun m=>AV.sl 4 1 0 m) (qB ..),_,_,rfl, .inl rfl,rfl⟩,⟨_,rfl,rfl,rfl,?_⟩,⟨_,rfl,rfl,rfl,?_⟩,MCU,MBo,trivial⟩ rfl
    ·exact MCF
    ·exact MCG
  ·refine MN ?_
   refine⟨sk,?_⟩
   refine And.intro ?_ ?_
   ·refine MN ?_
    refine⟨sk,?_⟩
    refine⟨sk,?_⟩
    refine AA [] [(2,3),(3,2)] [] rfl MD2 ⟨⟨_,rfl,rfl,rfl,_,rfl,_,_,rfl,rfl,_,_,rfl,A9 _ _,_,_,rfl,qH (fun m=>AV.sl 3 1 0 m) (qB ..),_,_,rfl,qH (fun m=>AV.sl 2 1 0 m) (qB ..),_,_,rfl, .inl rfl,rfl⟩,⟨_,rfl,rfl,rfl,?_⟩,⟨_,rfl,rfl,rfl,?_⟩,MCU,MBo,trivial⟩ rfl
    ·exact MCF
    ·exact MCG
   ·refine⟨sk,?_⟩
    refine MN ?_
    refine⟨sk,?_⟩
    refine AA [] [(2,4),(3,2),(4,3)] [] rfl MD2 ⟨⟨_,rfl,rfl,rfl,_,rfl,_,_,rfl,rfl,_,_,rfl,A9 _ _,_,_,rfl,qH (fun m=>AV.sl 4 1 0 m) (qB ..),_,_,rfl,qH (fun m=>AV.sl 2 1 0 m) (qB ..),_,_,rfl, .inl rfl,rfl⟩,⟨_,rfl,rfl,rfl,?_⟩,⟨_,rfl,rfl,rfl,?_⟩,MCU,MBo,trivial⟩ rfl
    ·exact MCF
    ·exact MCG
  ·refine⟨sk,?_⟩
   refine And.intro ?_ ?_
   ·refine MN ?_
    refine⟨sk,?_⟩
    refine MN ?_
    refine⟨sk,?_⟩
    refine AA [] [(2,3),(3,4),(4,2)] [] rfl MD2 ⟨⟨_,rfl,rfl,rfl,_,rfl,_,_,rfl,rfl,_,_,rfl,A9 _ _,_,_,rfl,qH (fun m=>AV.sl 3 1 0 m) (qB ..),_,_,rfl,qH (fun m=>AV.sl 4 1 0 m) (qB ..),_,_,rfl, .inl rfl,rfl⟩,⟨_,rfl,rfl,rfl,?_⟩,⟨_,rfl,rfl,rfl,?_⟩,MCU,MBo,trivial⟩ rfl
    ·exact MCF
    ·exact MCG
   ·refine MN ?_
    refine⟨sk,?_⟩
    refine MN ?_
    refine⟨sk,?_⟩
    refine AA [] [(2,4),(3,3),(4,2)] [] rfl MD2 ⟨⟨_,rfl,rfl,rfl,_,rfl,_,_,rfl,rfl,_,_,rfl,A9 _ _,_,_,rfl,qH (fun m=>AV.sl 4 1 0 m) (qB ..),_,_,rfl,qH (fun m=>AV.sl 3 1 0 m) (qB ..),_,_,rfl, .inl rfl,rfl⟩,⟨_,rfl,rfl,rfl,?_⟩,⟨_,rfl,rfl,rfl,?_⟩,MCU,MBo,trivial⟩ rfl
    ·exact MCF
    ·exact MCG
 refine⟨Nat,fun k=>[(2, .ptr 1 0 0),(4, .ptr 4 0 0),(5, .p (i64 (Cf ((BX n).take k)))),(48, .p (.Ai 3 (n.nodes.map EU.cells))),(49, .p (i64 n.nodes.length)),(50, .p (i64 k))],fun k=>⟨5,aBV n (FM 0 (BX n) k) (FM 0 (CF n) 0)⟩,fun k=>k<=n.nodes.length/\∀ c∈(BX n).take k,Hz c,fun k=>n.nodes.length - k,?_,?_⟩
 ·exact⟨0,MGK,AA [] [] [] rfl ⟨MBW,MC,rfl,rfl,aBP EU.cells n.nodes,rfl,trivial⟩ ⟨MEj,MCv,MAv,MCU,MBo,trivial⟩ rfl⟩
 rintro k ⟨g1,g2⟩
 obtain⟨p1,p2⟩:=Zl g2 ME
 have p3:=aHW k ME
 refine qA (fun h5=>?_) (fun h5=>?_)
 ·have h5:(k:Int)<(n.nodes.length:Nat):=h5
  have hk:k<n.nodes.length:=by omega
  obtain⟨x,hx⟩:∃ x,x=n.nodes.getD k Ld:=MX
  have dP:x∈n.nodes:=by rw [hx];exact EK Ld hk
  have AO:(n.nodes.map EU.cells)[k]?=some x.cells:=by rw [hx];exact aHZ hk
  have hck:(BX n).getD k 0=x.card:=by rw [BX,getD_map Ld 0 hk,hx]
  refine⟨_,Ma,?_⟩
  refine qA (fun h6=>?_) (fun h6=>?_)
  ·exact Gy (.agg yE) (i64 50) rfl rfl rfl (no fun h=>by have:=(h.aFg x dP).1;have h6:x.card<1:=h6;omega)
  have h6:¬ x.card<1:=h6
  refine qA (fun h7=>?_) (fun h7=>?_)
  ·exact Gy (.agg yE) (i64 50) rfl rfl rfl (no fun h=>by have:=(h.aFg x dP).2;have h7:4<x.card:=h7;omega)
  have h7:¬ 4<x.card:=h7
  have g2':=Tz 0 (show k<(BX n).length by omega) g2 (by rw [hck];exact MCb)
  obtain⟨q1,q2⟩:=Zl g2' ME
  have q3:=aHW (k+1) ME
  rw [JG ME,hck] at q1 q2
  have sJ:(FM 0 (BX n) k).length=n.nodes.length:=by rw [UI ME,IL]
  refine⟨by show(0:Int)<=(k:Nat)/\(k:Int)<(n.nodes.length:Nat);omega,?_⟩
  refine⟨by show 0+((k:Nat):Int).toNat<((FM 0 (BX n) k).map i64).length;rw [qB,sJ];omega,?_⟩
  refine⟨Cf ((BX n).take k) * x.card,wrap_i64 MBc ME,?_⟩
  refine MAs ?_
  refine⟨k+1,⟨by omega,g2'⟩,AA [] [] [] rfl ⟨MBW,MC,by rw [JG MDV,hck];rfl,rfl,rfl,rfl,trivial⟩ ⟨MEj,MAv,⟨_,rfl,rfl,rfl,?_⟩,MCU,MBo,trivial⟩ rfl,by show n.nodes.length - (k+1)<n.nodes.length - k;omega⟩
  show((FM 0 (BX n) k).map i64).set (0+((k:Nat):Int).toNat) (i64 x.card)=(FM 0 (BX n) (k+1)).map i64
  rw [ql,kL,<- yG ME,hck,jo]
 have h5:¬ (k:Int)<(n.nodes.length:Nat):=h5
 have hk:k=n.nodes.length:=by omega
 subst hk
 have htk:(BX n).take n.nodes.length=BX n:=IA ME
 rw [htk] at g2 p1 p2
 have hua:FM 0 (BX n) n.nodes.length=BX n:=by rw [<- IL];exact yF
 have aNW:∀ x∈n.nodes,Hz x.card:=fun x hx=>g2 _ (qz.2 MKm)
 refine qA (fun h6=>?_) (fun h6=>?_)
 ·exact Gy (.agg yE) (i64 50) rfl rfl rfl (no fun h=>by have:=h.prod;have h6:1024<Cf ((BX n).take n.nodes.length):=h6;rw [htk] at h6;omega)
 have h6:¬ 1024<Cf ((BX n).take n.nodes.length):=h6
 rw [htk] at h6
 refine⟨Nat,fun v=>[(2, .ptr 1 0 0),(4, .ptr 4 0 0),(80, .p (.Ai 3 (n.nodes.map EU.cells))),(81, .p (i64 n.nodes.length)),(82, .p (i64 v))],fun v=>⟨5,aBV n (BX n) (FM 0 (CF n) v)⟩,fun v=>v<=n.nodes.length/\(∀ x∈n.nodes.take v,LG n.nodes.length x.parents)/\∀ u,u<v->aFj n u,fun v=>n.nodes.length - v,?_,?_⟩
 ·exact⟨0,⟨by omega,by simp,fun u hu=>by omega⟩,AA [] [] [] rfl ⟨MBW,MC,rfl,aBP EU.cells n.nodes,rfl,trivial⟩ ⟨MEj,MAv,⟨_,rfl,rfl,rfl,qH (List.map i64) hua⟩,MCU,MBo,trivial⟩ rfl⟩
 rintro v ⟨v1,v2,v3⟩
 refine qA (fun h7=>?_) (fun h7=>?_)
 ·have h7:(v:Int)<(n.nodes.length:Nat):=h7
  have hv:v<n.nodes.length:=by omega
  obtain⟨x,hx⟩:∃ x,x=n.nodes.getD v Ld:=MX
  have dP:x∈n.nodes:=by rw [hx];exact EK Ld hv
  have AO:(n.nodes.map EU.cells)[v]?=some x.cells:=by rw [hx];exact aHZ hv
  have hsv:(CF n).getD v 0=GR x.parents:=by rw [CF,getD_map Ld 0 hv,hx]
  have sJ:(FM 0 (CF n) v).length=n.nodes.length:=by rw [UI ME,Ta]
  have hpb:=hb.par x dP
  refine⟨_,Ma,?_⟩
  refine⟨Nat,fun j=>[(2, .ptr 1 0 0),(4, .ptr 4 0 0),(8, .p (i64 v)),(9, .ptr 5 0 0),(10, .p (i64 (H6 x.parents j))),(80, .p (.Ai 3 (n.nodes.map EU.cells))),(81, .p (i64 n.nodes.length)),(82, .p (i64 v)),(88, .p (Gh x.parents)),(89, .p (i64 x.parents.length)),(90, .p (i64 j))],fun j=>⟨6,(5,aHV x)::aBV n (BX n) ((FM 0 (CF n) v).set v (GR (x.parents.take j)))⟩,
   fun j=>j<=x.parents.length/\∀ i,i<j->H6 x.parents i<x.parents.getD i 0/\x.parents.getD i 0<(n.nodes.length:Int),fun j=>x.parents.length - j,?_,?_⟩
  ·refine⟨0,⟨by omega,fun i hi=>by omega⟩,AA [] [] [] rfl ⟨MBt,MBW,rfl,MC,rfl,rfl,rfl,rfl,rfl,aBP i64 x.parents,rfl,trivial⟩ ⟨MH0,MEj,⟨_,rfl,rfl,rfl,qH (List.map u64) ?_⟩,MAv,MCU,MBo,trivial⟩ rfl⟩
   refine List.ext_getElem (by rw [jI]) fun i i1 i2=>?_
   rw [List.getElem_set]
   split
   ·subst v
    have:=aHz (z:=0) (l:=CF n) (k:=i) ME
    rw [qK,qW i1] at this
    exact this
   ·rfl
  rintro j ⟨j1,j2⟩
  have aPP:∀ i,i<j->0<=x.parents.getD i 0:=by
   intro i
   induction i with
   | zero=>intro hi;have:=(j2 0 hi).1;rw [H6,qM rfl] at this;omega
   | succ i ih=>intro hi;have:=(j2 (i+1) hi).1;rw [H6,qG MBc,show i+1 - 1=i by omega] at this;have:=ih ME;omega
  have LJ:GR (x.parents.take j)<2 ^ n.nodes.length:=by
   have:=Zo (l:=x.parents.take j) (n:=n.nodes.length) (fun p hp=>by
    obtain⟨i,hi,rfl⟩:=SV 0 hp
    rw [qj] at hi
    have e:(x.parents.take j).getD i 0=x.parents.getD i 0:=by
     rw [qK,List.getElem?_take,qM ME,<- qK]
    rw [e]
    exact⟨aPP i (by omega),(j2 i (by omega)).2⟩) j (by rw [qj];omega)
   rwa [jT,Nat.min_self] at this
  have h64:2 ^ n.nodes.length<18446744073709551616:=Zr ME
  refine qA (fun h8=>?_) (fun h8=>?_)
  ·have h8:(j:Int)<(x.parents.length:Nat):=h8
   have hj:j<x.parents.length:=by omega
   have bad:¬ (H6 x.parents j<x.parents.getD j 0/\x.parents.getD j 0<(n.nodes.length:Int))->¬ KU n:=fun h hv=>h (hv.aHU x dP j hj)
   refine⟨_,⟨by omega,i64 (x.parents.getD j 0),nM hj,rfl⟩,?_⟩
   refine qA (fun h9=>?_) (fun h9=>?_)
   ·exact Gy (.agg yE) (i64 50) rfl rfl rfl (no (bad fun h=>by have h9:x.parents.getD j 0<=H6 x.parents j:=h9;omega))
   have h9:¬ x.parents.getD j 0<=H6 x.parents j:=h9
   refine qA (fun ha=>?_) (fun ha=>?_)
   ·exact Gy (.agg yE) (i64 50) rfl rfl rfl (no (bad fun h=>by
     have ha:(((n.nodes.map EU.cells).length:Nat):Int)<=x.parents.getD j 0:=ha
     rw [qB] at ha
     omega))
   have ha:¬ (((n.nodes.map EU.cells).length:Nat):Int)<=x.parents.getD j 0:=ha
   rw [qB] at ha
   refine qA (fun hbb=>?_) (fun hbb=>?_)
   ·have hbb:x.parents.getD j 0=(v:Int):=hbb
    exact Gy (.agg yE) (i64 50) rfl rfl rfl (no fun h=>aKk h hv (by rw [<- hx,<- hbb];exact EK 0 hj))
   have j2':∀ i,i<j+1->H6 x.parents i<x.parents.getD i 0/\x.parents.getD i 0<(n.nodes.length:Int):=fun i hi=>by
    rcases xB i j with hh | hh
    ·exact j2 i hh
    ·have:i=j:=by omega
     subst this;exact MCb
   have hp0:0<=x.parents.getD j 0:=by
    by_cases e:j=0
    ·subst e
     rw [H6,qM rfl] at h9
     omega
    ·rw [H6,qG e] at h9
     have:=aPP (j - 1) ME
     omega
   obtain⟨p,hp⟩:∃ p:Nat,x.parents.getD j 0=p:=⟨(x.parents.getD j 0).toNat,by omega⟩
   have aPQ:p<64:=by omega
   have aPR:H6 x.parents (j+1)=x.parents.getD j 0:=by rw [H6,qG ME];rfl
   have TQ:((FM 0 (CF n) v).set v (GR (x.parents.take j))).getD v 0=GR (x.parents.take j):=by
    rw [qK,List.getElem?_set_self ME];rfl
   refine FI.seq rfl ?_
   refine⟨MIY,?_⟩
   obtain⟨S,hS⟩:∃ S,S=GR (x.parents.take j):=MX
   obtain⟨B,hB⟩:∃ B:Nat,B=2 ^ p:=MX
   have aRU:S<18446744073709551616:=by rw [hS];exact jr LJ h64
   have aE5:B<18446744073709551616:=by rw [hB];exact Zr aPQ
   refine⟨_,⟨u64 S,by
    show(((FM 0 (CF n) v).set v (GR (x.parents.take j))).map u64)[0+((v:Nat):Int).toNat]?=_
    rw [ql,kL,aHY (by rw [jI];omega),TQ,hS],rfl⟩,?_⟩
   refine⟨by show(0:Int)<=x.parents.getD j 0;omega,(B:Int),by rw [hp,hB];exact aCr (k:=p) aPQ,?_⟩
   refine⟨((S ||| B:Nat):Int),aHa aRU aE5,?_⟩
   refine⟨MIY,?_⟩
   refine⟨by show 0+((v:Nat):Int).toNat<(((FM 0 (CF n) v).set v (GR (x.parents.take j))).map u64).length;rw [qB,jI,sJ];omega,?_⟩
   refine MAs ?_
   refine⟨j+1,⟨by omega,j2'⟩,AA [] [] [] rfl ⟨MBt,MBW,rfl,MC,qH i64 aPR,rfl,rfl,rfl,rfl,rfl,rfl,trivial⟩ ⟨MH0,MEj,⟨_,rfl,rfl,rfl,?_⟩,MAv,MCU,MBo,trivial⟩ rfl,by show x.parents.length - (j+1)<x.parents.length - j;omega⟩
   show(((FM 0 (CF n) v).set v (GR (x.parents.take j))).map u64).set (0+((v:Nat):Int).toNat) (u64 (S ||| B))=((FM 0 (CF n) v).set v (GR (x.parents.take (j+1)))).map u64
   rw [ql,kL,Zn hj,hp,kL,jo,jo,List.set_set,hS,hB]
  have h8:¬ (j:Int)<(x.parents.length:Nat):=h8
  have hj:j=x.parents.length:=by omega
  subst hj
  have hxl:LG n.nodes.length x.parents:=j2
  have htp:x.parents.take x.parents.length=x.parents:=IA (qN _)
  have hss:(FM 0 (CF n) v).set v (GR (x.parents.take x.parents.length))=FM 0 (CF n) (v+1):=by rw [htp,<- hsv];exact yG ME
  have hF:=aHr n (FM 0 (CF n) (v+1)) x MCb ME g2 hxl (hb.rows x dP) (hb.row x dP)
  have aPS:EJ (GH (marks (aBV n (BX n) (FM 0 (CF n) (v+1))) [2,3]) 5) [.agg [.p (i64 n.BS), .p (.Ai 3 (n.nodes.map EU.cells)), .sl 2 1 0 n.nodes.length, .sl 3 1 0 n.nodes.length, .p .Ad], .p x.pv] [.agg (Qr n (FM 0 (CF n) (v+1)) .Ad),x.pv]:=by
   refine⟨_,_,rfl,⟨_,rfl,_,_,rfl,rfl,_,_,rfl,rfl,_,_,rfl,⟨_,rfl,by show 0+n.nodes.length<=((BX n).map i64).length;rw [qB];omega,AB (by rw [qB];omega)⟩,_,_,rfl,⟨_,rfl,by show 0+n.nodes.length<=((FM 0 (CF n) (v+1)).map u64).length;rw [qB,UI MBc];omega,AB (by rw [qB,UI ME];omega)⟩,_,_,rfl, .inl rfl,rfl⟩,_,_,rfl,A9 _ _,rfl⟩
  by_cases hf:aHq n x
  ·rw [qE hf] at hF
   refine hF.aCK [2,3] rfl ?_ ?_
   ·exact MEg
   refine MAs ?_
   refine⟨v+1,⟨by omega,Tz Ld hv v2 (by rw [<- hx];exact hxl),fun u hu=>?_⟩,AA [] [] [] rfl MKw ⟨MEj,⟨_,rfl,rfl,rfl,?_⟩,MAv,MCU,MBo,trivial⟩ rfl,by show n.nodes.length - (v+1)<n.nodes.length - v;omega⟩
   ·rcases xB u v with hh | hh
    ·exact v3 u hh
    ·have:u=v:=by omega
     subst this
     rw [hx] at hf
     exact hf
   ·exact qH (List.map u64) hss
  ·rw [qF hf] at hF
   refine hF.aCK [2,3] rfl ?_ ?_
   ·exact MEg
   exact Gy (.agg yE) (i64 50) rfl rfl rfl (no fun h=>hf (by rw [hx];exact h.node v hv))
 have h7:¬ (v:Int)<(n.nodes.length:Nat):=h7
 have hv:v=n.nodes.length:=by omega
 subst hv
 have PD:FM 0 (CF n) n.nodes.length=CF n:=by rw [<- Ta];exact yF
 rw [IA (qN _)] at v2
 have hS:=aH0 (CF n) ME (aKN v2)
 refine hS.use [3] rfl ?_ fun r hr=>?_
 ·refine⟨_,_,rfl,⟨_,rfl,?_,?_⟩,rfl⟩
  ·exact MHW
  ·exact MFN
 rcases hr with ⟨ha,l,rfl⟩ | ⟨ha,rfl⟩
 ·refine Gy (.agg (Qr n (CF n) (Gh l))) (i64 0) rfl ⟨_,rfl,_,_,rfl,rfl,_,_,rfl,rfl,_,_,rfl,⟨_,rfl,?_,?_⟩,_,_,rfl,⟨_,rfl,?_,?_⟩,_,_,rfl,rfl,rfl⟩ rfl (.inl ⟨⟨⟨by omega,by omega⟩,MCb,aNW,v2,by omega,ha,v3⟩,l,rfl⟩)
  ·show 0+n.nodes.length<=((BX n).map i64).length
   rw [qB];omega
  ·exact AB (by rw [qB,IL])
  ·exact MHW
  ·exact MFN
 ·exact Gy (.agg yE) (i64 50) rfl rfl rfl (no fun h=>ha h.aO3)
noncomputable def QS (n:SI):Int:=if KU n then 0 else 50
theorem Xv (n:SI) (hb:aJO n):Pure cx 27 [n.pv] (·=.ret [i64 (QS n)]):=by
 refine pure_of_vc Tryz.func27 rfl rfl rfl ?_
 refine(aKl n hb).at fun r hr=>?_
 rcases hr with ⟨h,l,rfl⟩ | ⟨h,rfl⟩
 ·exact AL _ rfl rfl (by rw [QS,qM h])
 ·exact AL _ rfl rfl (by rw [QS,qG h])
structure aFf (g:Gr):Prop where
 few:g.JR.length<=4
 par:∀ u∈g.JR,u.vars.length<=8/\LG g.nodes.length (EH u.vars)
 len:∀ u∈g.JR,(u.w.length:Int)=Cf (ED g.nodes u.vars)
 val:∀ u∈g.JR,∀ w∈u.w,-100<=w/\w<=100
def aRQ (u:Ut):Ag:=⟨78,false, .bx (u.cells.map .p)⟩
theorem nW (g:Gr) (dec:Nat) (hG:Xz g dec) (hU:aFf g):Pure cx 50 [.agg (Zt g)] (·=.ret [.bool true]):=by
 have hm:(g.nodes.map Nd.cells).length=g.nodes.length:=qB ..
 have hmu:(g.JR.map Ut.cells).length=g.JR.length:=qB ..
 obtain⟨l1,l8⟩:=hG.len
 have Jj:=hG.card
 obtain⟨hu1,hu2,hu3,hu4⟩:=hU
 obtain⟨gn,gr,nd,gd,ut⟩:=g
 obtain rfl:gd=(dec:Nat):=hG.aHl
 simp only [] at hm hmu l1 l8 Jj hu1 hu2 hu3 hu4
 refine pure_of_vc Tryz.func50 rfl rfl rfl ?_
 refine And.intro (fun _=>?_) (fun h=>absurd (show(((ut.map Ut.cells).length:Nat):Int)<=4 by omega) h)
 refine⟨Nat,fun k=>[(1, .ptr 0 0 0),(3, .p (.bool true)),(16, .p (.Ai 2 (ut.map Ut.cells))),(17, .p (i64 ut.length)),(18, .p (i64 k))],fun _=>⟨1,[(0,Q9 ⟨gn,gr,nd,(dec:Nat),ut⟩)]⟩,fun k=>k<=ut.length,fun k=>ut.length - k,?_,?_⟩
 ·exact⟨0,qL _,AA [] [] [] rfl ⟨MC,rfl,rfl,qH (fun n:Nat=>i64 n) hmu.symm,rfl,trivial⟩ (sk) rfl⟩
 intro k hk
 refine qA (fun m1=>?_) (fun m1=>?_)
 rotate_left
 ·exact MAl
 have m1:(k:Int)<(ut.length:Nat):=m1
 have J2:k<ut.length:=by omega
 have AO:=aBR J2
 have Dy:=Aa ut0 J2
 obtain⟨v8,vl⟩:=hu2 _ Dy
 have wl:=hu3 _ Dy
 have wv:=hu4 _ Dy
 generalize ut.getD k ut0=u at AO v8 vl wl wv
 obtain⟨vs,ws⟩:=u
 simp only [] at v8 vl wl wv
 have hC:=aHm (EH vs) nd.length (by have:=Zm vl;omega) vl
 rw [<- JH,<- hm] at hC
 have hvm:(vs.map fun i=>i64 ((i:Nat):Int)).length=vs.length:=qB ..
 have hwm:(ws.map i64).length=ws.length:=qB ..
 have hi:∀ p∈vs,p<nd.length:=fun p hp=>by
  have:=(Ni vl _ (qz.2 MKn)).2
  exact_mod_cast this
 have PO:∀ c∈ED nd vs,Hz c:=fun c Wi=>by
  obtain⟨p,hp,rfl⟩:=qz.1 Wi
  exact Jj _ (Aa H5 (hi p hp))
 have hrl:(ED nd vs).length=vs.length:=qB ..
 refine⟨_,⟨by omega,(Ut.mk vs ws).cells,AO,rfl⟩,?_⟩
 refine hC.eq rfl ?_
 refine⟨Nat,fun j=>[(1, .ptr 0 0 0),(5, .ptr 1 0 0),(6, .p (i64 (Cf ((ED nd vs).take j)))),(16, .p (.Ai 2 (ut.map Ut.cells))),(17, .p (i64 ut.length)),(18, .p (i64 k)),(34, .p (EZ vs)),(35, .p (i64 vs.length)),(36, .p (i64 j))],fun _=>⟨2,[(1,aRQ ⟨vs,ws⟩),(0,Q9 ⟨gn,gr,nd,(dec:Nat),ut⟩)]⟩,fun j=>j<=vs.length,fun j=>vs.length - j,?_,?_⟩
 ·exact⟨0,qL _,AA [] [] [] rfl ⟨MBW,MC,rfl,rfl,rfl,rfl,rfl,qH (fun n:Nat=>i64 n) hvm.symm,rfl,trivial⟩ (sk) rfl⟩
 intro j hj
 refine qA (fun m2=>?_) (fun m2=>?_)
 ·have m2:(j:Int)<(vs.length:Nat):=m2
  have hjl:j<vs.length:=by omega
  have hq:=hi _ (Aa 0 hjl)
  have hqc:=Oq hq
  have he:(ED nd vs).getD j 0=(nd.getD (vs.getD j 0) H5).card:=by
   rw [ED,qK,Ct 0 (f:=fun p=>(nd.getD p H5).card) hjl];rfl
  have LJ:=JG (l:=ED nd vs) (k:=j) ME
  rw [he] at LJ
  have Vw:=Eo PO MBc (k:=j) ME
  have hb2:=Eo PO MBc (k:=j+1) ME
  have rA:(vs.map fun i=>i64 ((i:Nat):Int))[j]?=some (i64 ((vs.getD j 0:Nat):Int)):=Ct (f:=fun i:Nat=>i64 (i:Nat)) 0 hjl
  generalize vs.getD j 0=q at hq hqc LJ rA
  generalize nd.getD q H5=y at hqc LJ
  obtain⟨yc,yp,yr⟩:=y
  have LJ:Cf ((ED nd vs).take (j+1))=Cf ((ED nd vs).take j) * yc:=LJ
  refine⟨_,MKo,?_⟩
  refine⟨_,MHb,?_⟩
  refine⟨Cf ((ED nd vs).take (j+1)),by rw [LJ];exact wrap_i64 MBc ME,?_⟩
  refine MAs ?_
  exact⟨j+1,by show j+1<=vs.length;omega,AA [] [] [] rfl (sk) (sk) rfl,by show vs.length - (j+1)<vs.length - j;omega⟩
 have m2:¬ (j:Int)<(vs.length:Nat):=m2
 have htk:(ED nd vs).take j=ED nd vs:=Ar ME
 refine And.intro (fun _=>?_) (fun h=>absurd (show(((ws.map i64).length:Nat):Int)=Cf ((ED nd vs).take j) by rw [hwm,htk];exact wl) h)
 refine⟨Nat,fun j=>[(1, .ptr 0 0 0),(3, .p (.bool true)),(16, .p (.Ai 2 (ut.map Ut.cells))),(17, .p (i64 ut.length)),(18, .p (i64 k)),(57, .p (ints ws)),(58, .p (i64 ws.length)),(59, .p (i64 j))],fun _=>⟨1,[(0,Q9 ⟨gn,gr,nd,(dec:Nat),ut⟩)]⟩,fun j=>j<=ws.length,fun j=>ws.length - j,?_,?_⟩
 ·exact⟨0,qL _,AA [] [] [] rfl ⟨MC,rfl,rfl,rfl,rfl,rfl,qH (fun n:Nat=>i64 n) hwm.symm,rfl,trivial⟩ (sk) rfl⟩
 intro i hi'
 refine qA (fun m3=>?_) (fun m3=>?_)
 ·have m3:(i:Int)<(ws.length:Nat):=m3
  have hil:i<ws.length:=by omega
  obtain⟨w1,w2⟩:=wv _ (Aa 0 hil)
  have hwb:ws.length<=65536:=by
   have:=Eo PO MBc (k:=vs.length) ME
   rw [Ar ME] at this
   omega
  refine⟨_,⟨by omega,i64 (ws.getD i 0),Ff hil,rfl⟩,?_⟩
  refine And.intro (fun _=>?_) (fun h=>absurd (show(-100:Int)<=ws.getD i 0 from w1) h)
  refine And.intro (fun _=>?_) (fun h=>absurd (show ws.getD i 0<=100 from w2) h)
  refine MAs ?_
  exact⟨i+1,by show i+1<=ws.length;omega,AA [] [] [] rfl (sk) (sk) rfl,by show ws.length - (i+1)<ws.length - i;omega⟩
 refine MAs ?_
 exact⟨k+1,by show k+1<=ut.length;omega,AA [] [] [] rfl (sk) (sk) rfl,by show ut.length - (k+1)<ut.length - k;omega⟩
def aLg (g:Gr) (dec i:Nat):EU:=⟨(g.nodes.getD i H5).card,EH (g.nodes.getD i H5).Jp,if dec.testBit i=true then List.replicate (Cf (ED g.nodes (g.nodes.getD i H5).Jp)).toNat (I8 g.BS (g.nodes.getD i H5).card) else(g.nodes.getD i H5).rows⟩
def Xw (g:Gr) (dec:Nat):SI:=⟨g.BS,(List.range g.nodes.length).map (aLg g dec)⟩
theorem iN {α:Type} {f h:α->List PV}:∀ {l:List α},(∀ i∈l,BL (f i) (h i))->BZ (l.map f) (l.map h)
 | [],_=>rfl
 | a::_,hh=>⟨_,_,rfl,hh a (kC ..),iN fun i hi=>hh i (qh _ hi)⟩
theorem aHi (rs:List (List Int)):Be (aHj rs) (.Dh (rs.map Gh)):=by
 cases rs with
 | nil=>exact .inr (.inl rfl)
 | cons a l=>exact .refl _
theorem aKS (g:Gr) (dec:Nat):BZ (Kv dec g.BS g.nodes g.nodes.length) ((Xw g dec).nodes.map EU.cells):=by
 rw [Kv,Xw,kr]
 refine iN fun i hi=>?_
 have hi:=xP.1 hi
 rw [qM hi]
 show BL [i64 _,EZ _,aHk dec g.BS g.nodes i (g.nodes.getD i H5)] [i64 _,Gh (EH (g.nodes.getD i H5).Jp), .Dh ((if dec.testBit i=true then _ else _:List (List Int)).map Gh)]
 refine⟨_,_,rfl, .refl _,_,_,rfl,?_,_,_,rfl,?_,rfl⟩
 ·rw [JH];exact .refl _
 ·rw [aHk]
  by_cases hb:dec.testBit i=true
  ·rw [qM hb,qM hb];exact .refl _
  ·rw [qG hb,qG hb];exact aHi _
theorem dY (g:Gr) (dec:Nat) (hG:Xz g dec) (hB:aMV g) (hU:aFf g) (hV:KU (Xw g dec)):Pure cx 28 [.agg (Zt g)] (·=.ret [i64 0]):=by
 have hR:=nV g dec hG
 have hF:=aBT g dec hG hB
 have hT:=nW g dec hG hU
 obtain⟨g1,g2⟩:=hG.BS
 have aRP:aJO (Xw g dec):=by
  have hx:∀ x∈(Xw g dec).nodes,x.parents.length<=9223372036854775807/\x.rows.length<=9223372036854775807/\∀ r∈x.rows,r.length<=9223372036854775807:=fun x hx=>by
   obtain⟨i,hi,rfl⟩:=qz.1 hx
   have hi:=xP.1 hi
   have hm:=Aa H5 hi
   have h8:=hB.par _ hm
   obtain⟨h6,hr8⟩:=hB.rows _ hm
   have hxi:∀ p∈(g.nodes.getD i H5).Jp,p<g.nodes.length:=fun p hp=>by
    have:=(Ni (hG.par _ hm) _ (qz.2 MKn)).2
    exact_mod_cast this
   obtain⟨GJ,aET,_,bJ⟩:=w9 hG.card h8 hxi
   have hcd:=(hG.card _ hm).2
   refine⟨by show(EH _).length<=_;rw [qB];omega,?_⟩
   show(if dec.testBit i=true then _ else _:List (List Int)).length<=_/\∀ r∈(if dec.testBit i=true then _ else _:List (List Int)),_
   by_cases hb:dec.testBit i=true
   ·rw [qM hb,aET,kL]
    refine⟨by rw [kz];omega,fun r hr=>?_⟩
    rw [(vR.1 hr).2,I8,jI,kz]
    omega
   ·rw [qG hb]
    exact⟨by omega,fun r hr=>by have:=hr8 r hr;omega⟩
  refine⟨?_,fun x h=>(hx x h).1,fun x h=>(hx x h).2.1,fun x h=>(hx x h).2.2⟩
  show((List.range g.nodes.length).map _).length<=_
  rw [qB,kT]
  have:=hG.len.2;omega
 have hC:=Xv (Xw g dec) aRP
 rw [QS,qM hV] at hC
 have hC:=hC.arg (args':=[.agg [i64 g.BS, .Ai 3 (Kv dec g.BS g.nodes g.nodes.length)]]) ⟨_,_,rfl,⟨_,rfl,_,_,rfl, .refl _,_,_,rfl,⟨_,rfl,aKS g dec⟩,rfl⟩,rfl⟩
 obtain⟨gn,gr,nd,gd,ut⟩:=g
 simp only [] at g1 g2 hF hC
 generalize Kv dec gr nd nd.length=Y at hF hC
 refine pure_of_vc Tryz.func28 rfl rfl rfl ?_
 refine And.intro (fun e=>absurd (show gr<1 from e) ME) (fun _=>?_)
 refine And.intro (fun e=>absurd (show 60<gr from e) ME) (fun _=>?_)
 refine hR.eq rfl ?_
 refine hF.eq rfl ?_
 refine hC.eq rfl ?_
 refine MJ ?_
 refine hT.eq rfl ?_
 exact MAl
end Go.Proofs.YtkegmchjobphdaaGreatDoor
namespace Go.Proofs.YtkegmchjobphdaaGreatDoor
open Go Y
set_option maxRecDepth 100000
set_option maxHeartbeats 4000000
theorem lI (l:List Mb):∀ k,k<=l.length->∀ i,i<k->(Ho (l.take k) 0).testBit i=decide ((l.getD i FO).d.kind=4)
 | 0,_,i,hi=>absurd hi (Nat.not_lt_zero i)
 | k+1,hk,i,hi=>by
  have hle:=XN l (k:=k) (by omega)
  rw [dZ l ME]
  by_cases h4:(l.getD k FO).d.kind=4
  ·rw [qM h4,<- aAW hle,zm,zI]
   by_cases e:i=k
   ·subst e
    rw [qE rfl,zC,qE h4]
   ·rw [lI l k MBc i ME,qF (show ¬ k=i by omega),zP]
  ·rw [qG h4,vz]
   by_cases e:i=k
   ·subst e
    rw [vw hle,qF h4]
   ·exact lI l k MBc i ME
theorem aFc (l:List Mb) {ps:List Nat} (hp:∀ i∈ps,i<l.length):ED (l.map (EM l)) ps=rO (N9 l) (EH ps):=by
 rw [ED,rO,EH,kr]
 refine xO fun i hi=>?_
 have h:=hp i hi
 show((l.map (EM l)).getD i H5).card=(N9 l).getD ((i:Nat):Int).toNat 0
 rw [kL,N9,qK,qK,Ct FO h,Ct FO h]
 rfl
theorem aFd:∀ (l:List (List UInt8)) (x:List UInt8) (i k:Nat),i<l.length->l.getD i []=x->(∀ j,j<i->¬ l.getD j []=x)->lJ l x k=some (k+i)
 | [],_,_,_,hi,_,_=>absurd hi (Nat.not_lt_zero _)
 | y::r,x,0,k,_,e,_=>by
  have e:y=x:=e
  rw [lJ,qM e,vz]
 | y::r,x,i+1,k,hi,e,hn=>by
  have hy:¬ y=x:=hn 0 (Nat.succ_pos _)
  rw [lJ,qG hy,aFd r x i (k+1) (by have:i+1<r.length+1:=hi;omega) e (fun j hj=>hn (j+1) ME),zN,Nat.add_comm 1 i]
theorem rP {ds:List De} {i:Nat} (hi:i<(AY ds ds).length):(Ho (AY ds ds) 0).testBit i=decide (((AY ds ds).getD i FO).d.kind=4):=by
 have:=lI (AY ds ds) _ (qN _) i hi
 rwa [Ar (qN _)] at this
theorem rQ {ds:List De} {i:Nat} (hi:i<(AY ds ds).length):(Ap ds).nodes.getD i H5=EM (AY ds ds) ((AY ds ds).getD i FO):=by
 show((AY ds ds).map (EM (AY ds ds))).getD i H5=_
 rw [qK,Ct FO hi];rfl
theorem aOG {ds:List De} (refs:List Rf) (idx:Int):LG (Ap ds).nodes.length (EH (Dn (AY ds ds) refs idx)):=by
 refine dh (lK _ _ _) fun y hy=>?_
 obtain⟨i,hi,rfl⟩:=qz.1 hy
 have:=IJ i hi
 show(0:Int)<=i/\(i:Int)<(((AY ds ds).map (EM (AY ds ds))).length:Nat)
 rw [qB]
 omega
section
variable {ds:List De} (h:BN ds)
include h
theorem BN.aFe (refs:List Rf) (idx:Int):(Dn (AY ds ds) refs idx).length<=8:=by
 have:=xH (fun i=>refs.any fun r=>pz ((AY ds ds).getD i FO) r idx) (List.range (AY ds ds).length)
 rw [kT] at this
 exact kG this h.eight.2
theorem BN.aLf (refs:List Rf) (idx:Int):Cf (ED (Ap ds).nodes (Dn (AY ds ds) refs idx))=(Vp (AY ds ds) (Dn (AY ds ds) refs idx):Nat):=by
 have hcd:∀ m∈AY ds ds,0<=m.d.n:=fun m hm=>by have:=h.card hm;omega
 show Cf (ED ((AY ds ds).map (EM (AY ds ds))) _)=_
 rw [aFc _ fun i hi=>IJ i hi,di hcd fun i hi=>IJ i hi]
theorem BN.Xw:Xw (Ap ds) (Ho (AY ds ds) 0)=SS ds:=by
 have hl:(Ap ds).nodes.length=(AY ds ds).length:=qB ..
 rw [Go.Proofs.YtkegmchjobphdaaGreatDoor.Xw,SS]
 refine qH (SI.mk _) (kU fun i=>?_)
 rw [kF,hl]
 by_cases hi:i<(AY ds ds).length
 ·rw [xm hi,Ct FO hi,xg]
  refine qH some ?_
  rw [aLg,rQ hi,rP hi]
  generalize (AY ds ds).getD i FO=m
  rw [show(EM (AY ds ds) m).Jp=Dn (AY ds ds) m.d.refs m.idx from rfl,h.aLf,kL,Vq]
  by_cases h4:m.d.kind=4
  ·rw [qE h4,qM rfl,qM h4];rfl
  ·rw [qF h4,qG ML,qG h4];rfl
 ·rw [kv (by rw [kT];omega),kv MAI];rfl
theorem BN.aFa:Xz (Ap ds) (Ho (AY ds ds) 0):=by
 have hl:(Ap ds).nodes.length=(AY ds ds).length:=qB ..
 obtain⟨_,g1,g2⟩:=h.BD
 refine⟨⟨g1,g2⟩,by rw [hl];exact h.eight,fun x hx=>?_,rfl,?_,fun k hk hb=>?_,fun x hx=>?_⟩
 ·exact MHY
 ·have:=XN (AY ds ds) (qN _)
  rw [Ar (qN _)] at this
  rw [hl];exact this
 ·rw [hl] at hk
  rw [rP hk] at hb
  rw [rQ hk,EM]
  exact qM (kK hb)
 ·obtain⟨m,hm,rfl⟩:=qz.1 hx
  exact aOG _ _
theorem BN.IC:aMV (Ap ds):=by
 refine⟨fun x hx=>?_,fun x hx=>?_⟩
 ·obtain⟨m,hm,rfl⟩:=qz.1 hx
  exact h.aFe _ _
 ·obtain⟨m,hm,rfl⟩:=qz.1 hx
  obtain⟨j,hj,hd,hk,_⟩:=h.member hm
  show(if m.d.kind=4 then [] else DU (AY ds ds) m.d.cases m.idx (Dn (AY ds ds) m.d.refs m.idx) (DV (AY ds ds).length)).length<=_/\∀ r∈(if m.d.kind=4 then [] else DU (AY ds ds) m.d.cases m.idx (Dn (AY ds ds) m.d.refs m.idx) (DV (AY ds ds).length)),_
  split
  ·exact⟨qL _,fun r hr=>MHE⟩
  ·rename_i h4
   refine⟨kG (QT (AY ds ds) _ _ _ _ fun i hi=>(h.card (Aa FO (IJ i hi))).2) (kG (kY MBM (h.aFe _ _)) ML),fun r hr=>?_⟩
   rw [hd] at hr h4
   obtain⟨c,hc,rfl⟩:=h.rows hj (.inl ME) hr
   exact(h.case hj (.inl ME) hc).2.2.2
theorem BN.aLe:aFf (Ap ds):=by
 refine⟨?_,fun u hu=>?_,fun u hu=>?_,fun u hu w hw=>?_⟩
 ·show((ds.filter fun d=>decide (d.kind=5)).map (G5 (AY ds ds))).length<=4
  rw [qB]
  have hc:=h.clean
  rw [allI] at hc
  split at hc
  ·split at hc
   ·cases hc
   ·rename_i hb
    refine Nat.le_of_not_lt fun hg=>hb ?_
    have hg:decide (4<Bn ds)=true:=qE hg
    rw [Go.Proofs.YtkegmchjobphdaaGreatDoor.IC,hg,vU,zC,zC]
  ·rename_i hb;exact absurd hc hb
 ·obtain⟨d,hd,rfl⟩:=qz.1 hu
  exact⟨h.aFe _ _,aOG _ _⟩
 ·obtain⟨d,hd,rfl⟩:=qz.1 hu
  show(((DU _ _ _ _ _).map _).length:Int)=Cf (ED _ (Dn (AY ds ds) d.refs 0))
  rw [qB,h.aLf,OA]
 ·obtain⟨d,hd,rfl⟩:=qz.1 hu
  obtain⟨hd,h5⟩:=je.1 hd
  have h5:d.kind=5:=kK h5
  obtain⟨r,hr,rfl⟩:=qz.1 hw
  obtain⟨j,hj,e⟩:=I7 Aj hd
  rw [<- e] at hr h5
  obtain⟨c,hc,rfl⟩:=h.rows hj (.inr h5) hr
  have:=(h.case hj (.inr h5) hc).2.1
  rw [KT,qM h5] at this
  simp only [qC,qJ] at this
  exact this.2
theorem BN.dX (hp:EN ds=true):(Nt.mk (Ap ds).BS (Ap ds).nodes).cells=(SS ds).cells:=by
 have hd:=((aDj h).1 hp).1
 rw [Un] at hd
 show [i64 (ds.getD 0 Aj).n, .Ai 3 (((AY ds ds).map (EM (AY ds ds))).map Nd.cells)]=[i64 (ds.getD 0 Aj).n, .Ai 3 (((AY ds ds).map (Vq (ds.getD 0 Aj).n (AY ds ds))).map EU.cells)]
 rw [kr,kr]
 have:(AY ds ds).map (Nd.cells ∘ EM (AY ds ds))=(AY ds ds).map (EU.cells ∘ Vq (ds.getD 0 Aj).n (AY ds ds)):=by
  refine xO fun m hm=>?_
  have h4:=hd m hm
  show(EM (AY ds ds) m).cells=(Vq (ds.getD 0 Aj).n (AY ds ds) m).cells
  rw [Vq,qG h4,EM]
  show [_,_,_]=[_,PV.Dh ((EH _).map i64),_]
  rw [EH,kr];rfl
 rw [this]
theorem BN.aOE:aJO (SS ds):=by
 have hb:=h.IC
 have hg:=h.aFa
 have hl:(Ap ds).nodes.length=(AY ds ds).length:=qB ..
 have h8:=h.eight
 refine⟨by show((AY ds ds).map _).length<=_;rw [qB];omega,fun x hx=>?_,fun x hx=>?_,fun x hx r hr=>?_⟩
 ·obtain⟨m,hm,rfl⟩:=qz.1 hx
  show(EH (Dn _ _ _)).length<=_
  rw [EH,qB]
  have:=h.aFe m.d.refs m.idx
  omega
 ·obtain⟨m,hm,rfl⟩:=qz.1 hx
  have hc:Vp (AY ds ds) (Dn (AY ds ds) m.d.refs m.idx)<=65536:=by
   rw [<- OA (AY ds ds) [] 0 _ []]
   exact kG (QT (AY ds ds) _ _ _ _ fun i hi=>(h.card (Aa FO (IJ i hi))).2) (kG (kY MBM (h.aFe _ _)) ML)
  have hr:=(hb.rows (EM (AY ds ds) m) (qz.2 ⟨m,hm,rfl⟩)).1
  show(if m.d.kind=4 then List.replicate (Vp (AY ds ds) (Dn (AY ds ds) m.d.refs m.idx)) (I8 (ds.getD 0 Aj).n m.d.n) else(EM (AY ds ds) m).rows).length<=_
  split
  ·rw [kz];omega
  ·omega
 ·have hv:=h.net
  obtain⟨v,hv1,rfl⟩:=SV Ld hx
  have hn:=(hv.node v hv1).2 r hr
  have hc:=hv.aFg _ hx
  have:=hn.1
  have:=hc.2
  omega
theorem BN.find {i:Nat} (hi:i<(Ap ds).names.length):lJ (Ap ds).names ((Ap ds).names.getD i []) 0=some i:=by
 have hl:(Ap ds).names.length=(AY ds ds).length:=qB ..
 have hat:∀ j,j<(AY ds ds).length->(Ap ds).names.getD j []=((AY ds ds).getD j FO).name:=fun j hj=>by
  show((AY ds ds).map Mb.name).getD j []=_
  rw [qK,Ct FO hj];rfl
 have:=aFd (Ap ds).names ((Ap ds).names.getD i []) i 0 hi rfl fun j hj e=>by
  rw [hat j MBc,hat i ME] at e
  exact absurd (h.aDk MDV MBc e) ME
 rwa [ql] at this
end
end Go.Proofs.YtkegmchjobphdaaGreatDoor
namespace Go.Proofs.YtkegmchjobphdaaGreatDoor
open Go Y
set_option maxRecDepth 100000
set_option maxHeartbeats 40000000
def Z4:List De:=[⟨1,2,[],[],[],[]⟩,⟨3,2,[97],[],[],[⟨.mk 0 0 0 0 ⟨[],0,[],0⟩ [] [],[1,1]⟩]⟩]
def KS:Nat->List De->List De
 | 0,_=>Z4
 | f+1,ds=>if 2<ds.length then(if (ds.getD (ds.length - 1) Aj).kind=3/\Bj ds=0 then ds else KS f (ds.take (ds.length - 1))) else Z4
theorem iX {ds:List De} (hb:NH ds) (k:Nat):NH (ds.take k):=⟨by rw [qj];have:=hb.len;omega,fun d hd=>hb.decl d (kQ hd)⟩
theorem aC2 {α:Type} {xs:List α} {m:Nat}:sub xs none (some ((m:Nat):Int))=xs.take m:=by
 rw [sub_eq]
 show(xs.drop 0).take (Int.toNat (m:Nat) - 0)=_
 rw [ji]
 congr 1
theorem aH5:Be (.agg [.Ai 6 [[i64 1,i64 2, .str [], .str [], .Ad, .Ad],[i64 3,i64 2, .str [97], .str [], .Ad, .Ai 11 [[i64 0,i64 0,i64 0,i64 0, .str [],i64 0, .str [],i64 0, .Ad, .Ad,ints [1,1]]]]]]) (JV Z4):=by
 refine⟨_,rfl,_,_,rfl,?_,rfl⟩
 refine⟨_,rfl,?_⟩
 refine⟨_,_,rfl,MCg,_,_,rfl,?_,rfl⟩
 refine⟨_,_,rfl,rfl,_,_,rfl,rfl,_,_,rfl,rfl,_,_,rfl,rfl,_,_,rfl, .inr (.inr ⟨4,rfl⟩),_,_,rfl,⟨_,rfl,?_⟩,rfl⟩
 exact⟨_,_,rfl,⟨_,_,rfl,rfl,_,_,rfl,rfl,_,_,rfl,rfl,_,_,rfl,rfl,_,_,rfl,rfl,_,_,rfl,rfl,_,_,rfl,rfl,_,_,rfl,rfl,_,_,rfl, .inr (.inl rfl),_,_,rfl, .inr (.inr MI1),_,_,rfl, .refl _,rfl⟩,rfl⟩
theorem aDg (ds:List De) (hb:NH ds) (hl:ds.length<=1000000):Pure cx 10 [JV ds] (·=.ret [JV (KS ds.length ds)]):=by
 have hS:=fun k=>aEv (ds.take k) (iX hb k)
 have hds:∀ k,k<=ds.length->((ds.take k).map De.cells).length=k:=fun k hk=>by rw [qB,qj,xG hk]
 obtain⟨R,hR⟩:∃ R,R=KS ds.length ds:=MX
 rw [<- hR]
 have main:Pure cx 10 [JV ds] fun r=>r=.ret [JV R]∨(R=Z4/\r=.ret [.agg [.Ai 6 [[i64 1,i64 2, .str [], .str [], .Ad, .Ad],[i64 3,i64 2, .str [97], .str [], .Ad, .Ai 11 [[i64 0,i64 0,i64 0,i64 0, .str [],i64 0, .str [],i64 0, .Ad, .Ad,ints [1,1]]]]]]]):=by
  refine pure_of_vc Tryz.func10 rfl rfl rfl ?_
  refine⟨Nat,fun _=>[(2, .ptr 0 0 0),(3, .ptr 1 0 0)],fun m=>⟨2,[(1,scO (ds.take m)),(0,⟨39,false, .bx [.p .Ad]⟩)]⟩,fun m=>m<=ds.length/\R=KS m (ds.take m),fun m=>m,?_,?_⟩
  ·refine⟨ds.length,⟨qN _,by rw [xy];exact hR⟩,AA [] [(0,1),(1,2)] [] rfl (sk) ?_ rfl⟩
   exact⟨⟨_,rfl,rfl,rfl,_,rfl,_,_,rfl,by rw [xy];rfl,rfl⟩,MBo,trivial⟩
  rintro m ⟨m1,m2⟩
  have hml:=hds m m1
  refine And.intro (fun c1=>?_) (fun c1=>?_)
  rotate_left
  ·have c1:¬ (2:Int)<(((ds.take m).map De.cells).length:Nat):=c1
   rw [hml] at c1
   have hRd:R=Z4:=by
    rw [m2]
    cases m with
    | zero=>rfl
    | succ q=>rw [KS,qG MEM]
   exact AL (.agg [.Ai 6 [[i64 1,i64 2, .str [], .str [], .Ad, .Ad],[i64 3,i64 2, .str [97], .str [], .Ad, .Ai 11 [[i64 0,i64 0,i64 0,i64 0, .str [],i64 0, .str [],i64 0, .Ad, .Ad,ints [1,1]]]]]]) rfl ⟨_,rfl,⟨_,_,rfl,⟨_,rfl,(by show 0+2<=2;omega),⟨_,_,rfl,⟨_,_,rfl,rfl,_,_,rfl,rfl,_,_,rfl,rfl,_,_,rfl,rfl,_,_,rfl, .inl rfl,_,_,rfl, .inl rfl,rfl⟩,_,_,rfl,⟨_,_,rfl,rfl,_,_,rfl,rfl,_,_,rfl,rfl,_,_,rfl,rfl,_,_,rfl, .inl rfl,_,_,rfl,⟨_,rfl,MO,⟨_,_,rfl,⟨_,_,rfl,rfl,_,_,rfl,rfl,_,_,rfl,rfl,_,_,rfl,rfl,_,_,rfl,rfl,_,_,rfl,rfl,_,_,rfl,rfl,_,_,rfl,rfl,_,_,rfl, .inl rfl,_,_,rfl, .inl rfl,_,_,rfl,⟨_,rfl,(by show 0+2<=2;omega),rfl⟩,rfl⟩,rfl⟩⟩,rfl⟩,rfl⟩⟩,rfl⟩⟩ (.inr ⟨hRd,rfl⟩)
  have c1:(2:Int)<(((ds.take m).map De.cells).length:Nat):=c1
  rw [hml] at c1
  obtain⟨q,rfl⟩:∃ q,m=q+1:=⟨m - 1,by omega⟩
  have hq:q<ds.length:=by omega
  have hS:=hS (q+1)
  have GL:(ds.take (q+1)).length=q+1:=MEM
  have hg:(ds.take (q+1)).getD q Aj=ds.getD q Aj:=QY Aj ME
  have AO:=Fj (l:=ds.take (q+1)) (k:=q) ME
  rw [KS,qM MBc,GL,xE,jT,xG ME,hg] at m2
  rw [hg] at AO
  generalize ds.getD q Aj=d at AO m2
  obtain⟨dk,dn,AQ,Ab,AJ,AZ⟩:=d
  simp only [] at m2
  have U3:((q:Nat):Int)=IntKind.i64.wrap ((((ds.take (q+1)).map De.cells).length:Nat) - 1:Int):=by rw [hml,show(((q+1:Nat)):Int) - 1=(q:Nat) by omega];exact wrap_i64 MBc ME
  refine⟨((q:Nat):Int),U3,?_⟩
  refine⟨_,MAR,?_⟩
  by_cases k3:dk=3
  ·by_cases hs:Bj (ds.take (q+1))=0
   ·rw [qM ⟨k3,hs⟩] at m2
    rw [hs] at hS
    refine And.intro (fun _=>?_) (fun h=>absurd k3 h)
    refine hS.eq rfl ?_
    refine MJ ?_
    exact AL (JV (ds.take (q+1))) rfl (sk) (.inl (by rw [m2]))
   ·rw [qG (fun h=>hs h.2)] at m2
    generalize Bj (ds.take (q+1))=e at hS hs
    refine And.intro (fun _=>?_) (fun h=>absurd k3 h)
    refine hS.eq rfl ?_
    refine MGy ?_
    exact MCA
  ·rw [qG (fun h=>k3 h.1)] at m2
   refine And.intro (fun h=>absurd h k3) (fun _=>?_)
   exact MCA
 refine main.weak fun r hr=>?_
 rcases hr with rfl | ⟨e,rfl⟩
 ·exact⟨_,⟨_,rfl,_,_,rfl, .refl _,rfl⟩,rfl⟩
 ·exact⟨_,⟨_,rfl,_,_,rfl,aH5,rfl⟩,MLB⟩
theorem aFb (g:Gr) (nm:List UInt8) (hl:g.names.length<=1000):Pure cx 20 [.agg g.cells, .str nm] (·=.ret (Xy g.names nm)):=by
 obtain⟨ns,gg,gn,gd,gu⟩:=g
 have hl:ns.length<=1000:=hl
 have hm:(ns.map PV.str).length=ns.length:=qB ..
 show Pure cx _ _ (·=.ret (Xy ns nm))
 obtain⟨R,hR⟩:∃ R,R=Xy ns nm:=MX
 rw [<- hR]
 refine pure_of_vc Tryz.func20 rfl rfl rfl ?_
 refine⟨Nat,fun k=>[(1, .p (.str nm)),(9, .p (strs ns)),(10, .p (i64 ns.length)),(11, .p (i64 k))],fun _=>⟨0,[]⟩,fun k=>k<=ns.length/\R=(match lJ (ns.drop k) nm k with | some k=>[i64 (k:Nat),i64 0] | none=>[i64 0,i64 4]),fun k=>ns.length - k,?_,?_⟩
 ·exact⟨0,⟨qL _,hR⟩,AA [] [] [] rfl MDW (sk) rfl⟩
 rintro k ⟨k1,k2⟩
 refine qA (fun m1=>?_) (fun m1=>?_)
 rotate_left
 ·have m1:¬ (k:Int)<(ns.length:Nat):=m1
  rw [qb ME,lJ] at k2
  exact Gy (i64 0) (i64 4) rfl rfl rfl (by rw [k2])
 have m1:(k:Int)<(ns.length:Nat):=m1
 have hk:k<ns.length:=by omega
 have AO:=Xx hk
 rw [EO [] hk,lJ] at k2
 generalize ns.getD k []=x at AO k2
 refine⟨_,MEC,?_⟩
 refine qA (fun e1=>?_) (fun e1=>?_)
 ·have e1:x=nm:=e1
  rw [qM e1] at k2
  exact Gy (i64 (k:Nat)) (i64 0) rfl rfl rfl (by rw [k2])
 ·have e1:¬ x=nm:=e1
  rw [qG e1] at k2
  refine MAs ?_
  exact⟨k+1,⟨by omega,k2⟩,AA [] [] [] rfl (sk) (sk) rfl,MJ7⟩
abbrev PK (n:Nat):Rf:=⟨[122],1,[113],((1+n / 2 % 3:Nat):Int)⟩
abbrev yH:Rf:=⟨[],0,[],0⟩
def UJ (n:Nat):Cd:=if n / 64 % 2=1 then .mk 7 0 0 0 yH [] [.mk ((1+n / 8 % 4:Nat):Int) ((n / 32 % 2:Nat):Int) 0 0 (PK n) [] []] else .mk ((1+n / 8 % 4:Nat):Int) ((n / 32 % 2:Nat):Int) 0 0 (PK n) [] []
def aBY (n:Nat) (g:Int):List De:=[⟨2,((2+n % 2:Nat):Int),[113],[],[],[]⟩,⟨3,2,[122],[113],[PK n],[⟨UJ n,[g,0]⟩,⟨.mk 0 0 0 0 yH [] [],[0,g]⟩]⟩]
def SB (p:List De):Int:=(p.getD 0 Aj).n
def Hm (n:Nat) (p:List De):List De:=p++aBY n (SB p)
abbrev CQ (n:Nat):List PV:=[i64 ((1+n / 8 % 4:Nat):Int),i64 ((n / 32 % 2:Nat):Int),i64 0,i64 0, .str [122],i64 1, .str [113],i64 ((1+n / 2 % 3:Nat):Int), .Ad, .Ad]
abbrev XF (n:Nat):List PV:=if n / 64 % 2=1 then [i64 7,i64 0,i64 0,i64 0, .str [],i64 0, .str [],i64 0, .Ad, .Ai 10 [CQ n]] else CQ n
theorem yJ (n:Nat):BL (CQ n) (Cd.mk ((1+n / 8 % 4:Nat):Int) ((n / 32 % 2:Nat):Int) 0 0 (PK n) [] []).cells:=
 MDi
theorem u8q (n k:Nat) (hn:n<256):((n / k:Nat):Int)=IntKind.u8.wrap ((n:Int).tdiv (k:Nat)):=by
 rw [show(n:Int).tdiv (k:Nat)=((n / k:Nat):Int) from rfl]
 have:n / k<=n:=Nat.div_le_self _ _
 generalize n / k=m at this ⊢
 exact aOW MBc ME
theorem aH3 (n:Nat):BL (XF n) (UJ n).cells:=by
 unfold XF UJ
 split
 ·exact⟨_,_,rfl,rfl,_,_,rfl,rfl,_,_,rfl,rfl,_,_,rfl,rfl,_,_,rfl,rfl,_,_,rfl,rfl,_,_,rfl,rfl,_,_,rfl,rfl,_,_,rfl, .inr (.inl rfl),_,_,rfl,⟨_,rfl,⟨_,_,rfl,yJ n,rfl⟩⟩,rfl⟩
 ·exact yJ n
abbrev aH4:List PV:=[i64 0,i64 0,i64 0,i64 0, .str [],i64 0, .str [],i64 0, .Ad, .Ad]
abbrev Fb (n:Nat) (g:Int) (W:List PV):List (List PV):=[[i64 2,i64 ((2+n % 2:Nat):Int), .str [113], .str [], .Ad, .Ad],[i64 3,i64 2, .str [122], .str [113], .Ai 4 [(PK n).cells], .Ai 11 [W++[ints [g,0]],aH4++[ints [0,g]]]]]
theorem BL.app:∀ {a b c d:List PV},BL a b->BL c d->BL (a++c) (b++d)
 | [],b,c,d,h,k=>by
  have h:b=[]:=h
  subst h;exact k
 | x::a,b,c,d,h,k=>by
  obtain⟨z,zs,rfl,h1,h2⟩:=h
  exact⟨z,zs++d,rfl,h1,BL.app h2 k⟩
theorem BZ.app:∀ {a b c d:List (List PV)},BZ a b->BZ c d->BZ (a++c) (b++d)
 | [],b,c,d,h,k=>by
  have h:b=[]:=h
  subst h;exact k
 | x::a,b,c,d,h,k=>by
  obtain⟨z,zs,rfl,h1,h2⟩:=h
  exact⟨z,zs++d,rfl,h1,BZ.app h2 k⟩
theorem aE7 (n:Nat) (g:Int):BZ (Fb n g (XF n)) ((aBY n g).map De.cells):=by
 refine⟨_,_,rfl,MCg,_,_,rfl,?_,rfl⟩
 refine⟨_,_,rfl,rfl,_,_,rfl,rfl,_,_,rfl,rfl,_,_,rfl,rfl,_,_,rfl, .refl _,_,_,rfl,⟨_,rfl,?_⟩,rfl⟩
 refine⟨_,_,rfl,BL.app (aH3 n) (.refl _),_,_,rfl,BL.app (d:=[ints [0,g]]) (b:=(Cd.mk 0 0 0 0 yH [] []).cells) ?_ (.refl _),rfl⟩
 exact MDi
theorem Hg {L:List (Nat × Ag)} {v:AV} {n len:Nat} {t:TypeId} {X:List (List PV)} (hv:v=.agg [.sl n 6 0 len]) (hl:Aq L n=some ⟨t,true, .GN X⟩) (h:X.length=len):GH L 5 v (.agg [.Ai 6 X]):=by
 subst hv
 refine⟨_,rfl,_,_,rfl,?_,rfl⟩
 show(match Aq L n with
  | some o=>_
  | none=>False)
 rw [hl]
 exact⟨X,rfl,by omega,AB h⟩
abbrev aKm:OT:=(.pure 1 (.pure 2 (.pure 4 (.pure 5 (.pure 6 (.pure 7 (.pure 8 (.pure 9 (.A8 0 [9,6,2] (.A8 3 [9,6] (.A8 10 [2] (.A8 11 [] (.pure 12 (.A8 13 [] .fin .nil)) .nil) .nil) (.A8 10 [2] (.A8 3 [9,6] (.A8 11 [] (.pure 12 (.A8 13 [] .fin .nil)) .nil) .nil) .nil)) (.A8 10 [2] (.A8 0 [9,6,2] (.A8 3 [9,6] (.A8 11 [] (.pure 12 (.A8 13 [] .fin .nil)) .nil) .nil) .nil) .nil))))))))))
theorem aDh (n:Nat) (hn:n<256) (p:List De) (hp:p.length<=1000000):Pure cx 12 [JV p, .int .u8 (n:Nat)] (·=.ret [JV (Hm n p)]):=by
 have hpm:(p.map De.cells).length=p.length:=qB ..
 rw [show JV (Hm n p)=.agg [.Ai 6 (p.map De.cells++(aBY n (SB p)).map De.cells)] by show PV.agg [.Ai 6 ((Hm n p).map De.cells)]=_;rw [Hm,qX]]
 obtain⟨g,hg⟩:∃ g,g=SB p:=MX
 rw [<- hg]
 refine(?_:Pure cx 12 [JV p, .int .u8 (n:Nat)] (·=.ret [.agg [.Ai 6 (p.map De.cells++Fb n g (XF n))]])).nil ⟨_,rfl,_,_,rfl,⟨_,rfl,_,_,rfl,⟨_,rfl,BZ.app (.refl _) (aE7 n g)⟩,rfl⟩,rfl⟩
 have s3:(0+(p.map De.cells).length) * 96<=140737488355328:=MFY
 have Cy:0+(0+(p.map De.cells).length)<=(p.map De.cells).length:=by omega
 have Cz:p.map De.cells=((p.map De.cells).drop 0).take (0+(p.map De.cells).length):=AB ME
 have C8:(0+(p.map De.cells).length+2) * 96<=140737488355328:=MFY
 have ET:∀ W:List PV,0+(0+(p.map De.cells).length+2)<=(p.map De.cells++Fb n g W).length:=fun W=>by rw [qD];show _<=_+2;omega
 have C9:∀ W:List PV,(p.map De.cells++Fb n g W).length=0+(p.map De.cells).length+2:=fun W=>by rw [qD];show _+2=_;omega
 refine pure_of_vc Tryz.func12 rfl rfl rfl ?_
 refine⟨ML,((n / 2:Nat):Int),u8q n 2 hn,?_⟩
 refine⟨ML,?_⟩
 refine⟨((n / 2 % 3:Nat):Int),wrap_i64 (n:=((n / 2 % 3:Nat):Int)) MBc ME,?_⟩
 refine⟨((1+n / 2 % 3:Nat):Int),MAz,?_⟩
 by_cases h0:0<p.length
 ·have AO:=Fj h0
  rw [SB] at hg
  generalize p.getD 0 Aj=d at AO hg
  obtain⟨dk,dn,AQ,Ab,AJ,AZ⟩:=d
  have hg:g=dn:=hg
  refine And.intro (fun _=>?_) (fun q=>absurd (show(0:Int)<((p.map De.cells).length:Nat) by omega) q)
  refine⟨_,MAR,?_⟩
  subst hg
  refine⟨ML,((n / 8:Nat):Int),u8q n 8 hn,?_⟩
  refine⟨ML,?_⟩
  refine⟨((n / 8 % 4:Nat):Int),wrap_i64 (n:=((n / 8 % 4:Nat):Int)) MBc ME,?_⟩
  refine⟨((1+n / 8 % 4:Nat):Int),MAz,?_⟩
  refine⟨ML,((n / 32:Nat):Int),u8q n 32 hn,?_⟩
  refine⟨ML,?_⟩
  refine MLH ?_
  refine⟨ML,((n / 64:Nat):Int),u8q n 64 hn,?_⟩
  refine⟨ML,?_⟩
  by_cases h64:n / 64 % 2=1
  ·refine MKM ?_
   have hW:XF n=[i64 7,i64 0,i64 0,i64 0, .str [],i64 0, .str [],i64 0, .Ad, .Ai 10 [CQ n]]:=by rw [XF,qM h64]
   refine AR (H:=⟨10,[(9,⟨_,false, .bx [.p (i64 3), .p (i64 2), .p (.str [122]), .p (.str [113]), .sl 5 4 0 1, .sl 8 11 0 2]⟩),(8,⟨_,false, .Gw [([i64 7,i64 0,i64 0,i64 0, .str [],i64 0, .str [],i64 0, .Ad]:List PV).map .p++[.sl 4 10 0 1]++[.sl 6 1 0 2],aH4.map .p++[.sl 7 1 0 2]]⟩),(7,⟨_,false, .pu [i64 0,i64 (g)]⟩),(6,⟨_,false, .pu [i64 (g),i64 0]⟩),(5,⟨_,false, .GN [(PK n).cells]⟩),(4,⟨_,false, .GN [CQ n]⟩),(3,⟨_,false, .bx (([i64 7,i64 0,i64 0,i64 0, .str [],i64 0, .str [],i64 0, .Ad]:List PV).map .p++[.sl 4 10 0 1])⟩),(2,⟨_,false, .bx ((PK n).cells.map .p)⟩),(1,⟨_,false, .bx [.p .Ad]⟩),(0,⟨_,false, .bx [.p (Dw p)]⟩)]⟩) aKm MK ?_
   refine⟨ML,?_⟩
   refine MGs ?_
   refine MJi ?_
   refine And.intro ?_ ?_
   ·refine⟨by(repeat' first | exact trivial | exact rfl | exact qH (fun z:Int=>AV.p (.int .i64 z)) (wrap_i64 (n:=((n % 2:Nat):Int)) MBc ME) | refine And.intro ?_ ?_),?_⟩
    refine And.intro ?_ ?_
    ·refine MCH ?_
     refine⟨by(repeat' first | exact trivial | exact rfl | exact qH (fun z:Int=>AV.p (.int .i64 z)) (wrap_i64 (n:=((n % 2:Nat):Int)) MBc ME) | refine And.intro ?_ ?_),?_⟩
     exact MA1
    ·exact MDd
   ·refine⟨by(repeat' first | exact trivial | exact rfl | exact qH (fun z:Int=>AV.p (.int .i64 z)) (wrap_i64 (n:=((n % 2:Nat):Int)) MBc ME) | refine And.intro ?_ ?_),?_⟩
    exact MDd
  ·refine MKU ?_
   have hW:XF n=CQ n:=by rw [XF,qG h64]
   refine AR (H:=⟨9,[(8,⟨_,false, .bx [.p (i64 3), .p (i64 2), .p (.str [122]), .p (.str [113]), .sl 4 4 0 1, .sl 7 11 0 2]⟩),(7,⟨_,false, .Gw [(CQ n).map .p++[.sl 5 1 0 2],aH4.map .p++[.sl 6 1 0 2]]⟩),(6,⟨_,false, .pu [i64 0,i64 (g)]⟩),(5,⟨_,false, .pu [i64 (g),i64 0]⟩),(4,⟨_,false, .GN [(PK n).cells]⟩),(3,⟨_,false, .bx ((CQ n).map .p)⟩),(2,⟨_,false, .bx ((PK n).cells.map .p)⟩),(1,⟨_,false, .bx [.p .Ad]⟩),(0,⟨_,false, .bx [.p (Dw p)]⟩)]⟩) aKm MK ?_
   refine⟨ML,?_⟩
   refine MGs ?_
   refine MJi ?_
   refine And.intro ?_ ?_
   ·refine⟨by(repeat' first | exact trivial | exact rfl | exact qH (fun z:Int=>AV.p (.int .i64 z)) (wrap_i64 (n:=((n % 2:Nat):Int)) MBc ME) | refine And.intro ?_ ?_),?_⟩
    refine And.intro ?_ ?_
    ·refine MCH ?_
     refine⟨by(repeat' first | exact trivial | exact rfl | exact qH (fun z:Int=>AV.p (.int .i64 z)) (wrap_i64 (n:=((n % 2:Nat):Int)) MBc ME) | refine And.intro ?_ ?_),?_⟩
     exact MBE
    ·exact MDb
   ·refine⟨by(repeat' first | exact trivial | exact rfl | exact qH (fun z:Int=>AV.p (.int .i64 z)) (wrap_i64 (n:=((n % 2:Nat):Int)) MBc ME) | refine And.intro ?_ ?_),?_⟩
    exact MDb
 ·have hp0:p=[]:=qY ME
  have hg:g=0:=by rw [hg,hp0];rfl
  refine And.intro (fun q=>absurd (show(0:Int)<((p.map De.cells).length:Nat) from q) ME) (fun _=>?_)
  subst hg
  refine⟨ML,((n / 8:Nat):Int),u8q n 8 hn,?_⟩
  refine⟨ML,?_⟩
  refine⟨((n / 8 % 4:Nat):Int),wrap_i64 (n:=((n / 8 % 4:Nat):Int)) MBc ME,?_⟩
  refine⟨((1+n / 8 % 4:Nat):Int),MAz,?_⟩
  refine⟨ML,((n / 32:Nat):Int),u8q n 32 hn,?_⟩
  refine⟨ML,?_⟩
  refine MLH ?_
  refine⟨ML,((n / 64:Nat):Int),u8q n 64 hn,?_⟩
  refine⟨ML,?_⟩
  by_cases h64:n / 64 % 2=1
  ·refine MKM ?_
   have hW:XF n=[i64 7,i64 0,i64 0,i64 0, .str [],i64 0, .str [],i64 0, .Ad, .Ai 10 [CQ n]]:=by rw [XF,qM h64]
   refine AR (H:=⟨10,[(9,⟨_,false, .bx [.p (i64 3), .p (i64 2), .p (.str [122]), .p (.str [113]), .sl 5 4 0 1, .sl 8 11 0 2]⟩),(8,⟨_,false, .Gw [([i64 7,i64 0,i64 0,i64 0, .str [],i64 0, .str [],i64 0, .Ad]:List PV).map .p++[.sl 4 10 0 1]++[.sl 6 1 0 2],aH4.map .p++[.sl 7 1 0 2]]⟩),(7,⟨_,false, .pu [i64 0,i64 ((0:Int))]⟩),(6,⟨_,false, .pu [i64 ((0:Int)),i64 0]⟩),(5,⟨_,false, .GN [(PK n).cells]⟩),(4,⟨_,false, .GN [CQ n]⟩),(3,⟨_,false, .bx (([i64 7,i64 0,i64 0,i64 0, .str [],i64 0, .str [],i64 0, .Ad]:List PV).map .p++[.sl 4 10 0 1])⟩),(2,⟨_,false, .bx ((PK n).cells.map .p)⟩),(1,⟨_,false, .bx [.p .Ad]⟩),(0,⟨_,false, .bx [.p (Dw p)]⟩)]⟩) aKm MK ?_
   refine⟨ML,?_⟩
   refine MGs ?_
   refine MJi ?_
   refine And.intro ?_ ?_
   ·refine⟨by(repeat' first | exact trivial | exact rfl | exact qH (fun z:Int=>AV.p (.int .i64 z)) (wrap_i64 (n:=((n % 2:Nat):Int)) MBc ME) | refine And.intro ?_ ?_),?_⟩
    refine And.intro ?_ ?_
    ·refine MCH ?_
     refine⟨by(repeat' first | exact trivial | exact rfl | exact qH (fun z:Int=>AV.p (.int .i64 z)) (wrap_i64 (n:=((n % 2:Nat):Int)) MBc ME) | refine And.intro ?_ ?_),?_⟩
     exact MA0
    ·exact MDe
   ·refine⟨by(repeat' first | exact trivial | exact rfl | exact qH (fun z:Int=>AV.p (.int .i64 z)) (wrap_i64 (n:=((n % 2:Nat):Int)) MBc ME) | refine And.intro ?_ ?_),?_⟩
    exact MDe
  ·refine MKU ?_
   have hW:XF n=CQ n:=by rw [XF,qG h64]
   refine AR (H:=⟨9,[(8,⟨_,false, .bx [.p (i64 3), .p (i64 2), .p (.str [122]), .p (.str [113]), .sl 4 4 0 1, .sl 7 11 0 2]⟩),(7,⟨_,false, .Gw [(CQ n).map .p++[.sl 5 1 0 2],aH4.map .p++[.sl 6 1 0 2]]⟩),(6,⟨_,false, .pu [i64 0,i64 ((0:Int))]⟩),(5,⟨_,false, .pu [i64 ((0:Int)),i64 0]⟩),(4,⟨_,false, .GN [(PK n).cells]⟩),(3,⟨_,false, .bx ((CQ n).map .p)⟩),(2,⟨_,false, .bx ((PK n).cells.map .p)⟩),(1,⟨_,false, .bx [.p .Ad]⟩),(0,⟨_,false, .bx [.p (Dw p)]⟩)]⟩) aKm MK ?_
   refine⟨ML,?_⟩
   refine MGs ?_
   refine MJi ?_
   refine And.intro ?_ ?_
   ·refine⟨by(repeat' first | exact trivial | exact rfl | exact qH (fun z:Int=>AV.p (.int .i64 z)) (wrap_i64 (n:=((n % 2:Nat):Int)) MBc ME) | refine And.intro ?_ ?_),?_⟩
    refine And.intro ?_ ?_
    ·refine MCH ?_
     refine⟨by(repeat' first | exact trivial | exact rfl | exact qH (fun z:Int=>AV.p (.int .i64 z)) (wrap_i64 (n:=((n % 2:Nat):Int)) MBc ME) | refine And.intro ?_ ?_),?_⟩
     exact MBC
    ·exact MDc
   ·refine⟨by(repeat' first | exact trivial | exact rfl | exact qH (fun z:Int=>AV.p (.int .i64 z)) (wrap_i64 (n:=((n % 2:Nat):Int)) MBc ME) | refine And.intro ?_ ?_),?_⟩
    exact MDc
theorem aDi {p:List De} (hb:NH p) (hl:p.length<=1000000) (n:Nat):NH (Hm n p):=by
 refine⟨by rw [Hm,qD];show p.length+2<=_;omega,fun d hd=>?_⟩
 rw [Hm] at hd
 rcases qa.1 hd with hd | hd
 ·exact hb.decl d hd
 ·have U1:Us (PK n):=⟨MF8,MIZ⟩
  have hr0:Us yH:=⟨MFR,MCK⟩
  rcases qw.1 hd with rfl | hd
  ·exact⟨MIZ,MCK,by show 0<=9223372036854775807;decide,fun r hr=>MHE,⟨by show 0<=9223372036854775807;decide,fun c hc=>(by cases hc),fun c hc=>(by cases hc)⟩⟩
  ·rw [qP.1 hd]
   refine⟨MF8,MIZ,by show 1<=9223372036854775807;decide,fun r hr=>?_,⟨by show 2<=9223372036854775807;decide,fun c hc=>?_,fun c hc=>?_⟩⟩
   ·rw [qP.1 hr];exact U1
   ·rcases qw.1 hc with rfl | hc
    ·show Ht (UJ n)
     unfold UJ
     split
     ·exact⟨hr0,MEl,by show 1<=9223372036854775807;decide,⟨U1,MBM,ML,trivial⟩,trivial⟩
     ·exact⟨U1,MBM,ML,trivial⟩
    ·rw [qP.1 hc]
     exact⟨hr0,MBM,ML,trivial⟩
   ·rcases qw.1 hc with rfl | hc
    ·show 2<=_;decide
    ·rw [qP.1 hc];show 2<=_;decide
set_option maxHeartbeats 4000000
set_option maxHeartbeats 40000000
abbrev WY:List PV:=[i64 0,i64 0,i64 0,i64 0, .str [],i64 0, .str [],i64 0, .Ad, .Ad]
theorem aNa (l:List Int):BL (WY++[.Dh (l.map i64)]) (⟨Fy,l⟩:Cs).cells:=by
 show BL [i64 0,i64 0,i64 0,i64 0, .str [],i64 0, .str [],i64 0, .Ad, .Ad, .Dh (l.map i64)] [i64 0,i64 0,i64 0,i64 0, .str [],i64 0, .str [],i64 0, .Dh [], .Ai 10 [], .Dh (l.map i64)]
 simp only [Be,BL]
 exact⟨_,_,rfl,rfl,_,_,rfl,rfl,_,_,rfl,rfl,_,_,rfl,rfl,_,_,rfl,rfl,_,_,rfl,rfl,_,_,rfl,rfl,_,_,rfl,rfl,_,_,rfl, .inr (.inl rfl),_,_,rfl, .inr (.inr MI1),_,_,rfl,⟨_,rfl,BL.refl _⟩,rfl⟩
structure Small (d:Nat) (c:Cd) (n:Nat):Prop where
 pos:1<=n
 valid:∀ left,n<=left->BQ d c left=some (left - n)
 big:Ht c
 len:(RV true (DZ c)).length<=240 * n
theorem aII {op n rel val:Int} {r:Rf} {st:List Int} (hb:Av op n rel val r st=true) (hs:st.length<=4):(Tx op n rel val r st).length<=21:=by
 unfold Av at hb
 unfold Tx
 by_cases c6:op=6
 ·rw [qG MBc,qG ME,qM c6] at hb
  simp only [qC,qJ] at hb
  have hr:=Ku hb.1.1.1.1.1.1
  rw [qM c6]
  simp only [qD,qR,qy];omega
 ·rw [qG c6]
  by_cases c5:op=5
  ·rw [qG ME,qM c5] at hb
   simp only [qC,qJ] at hb
   obtain⟨⟨⟨⟨b1,b2⟩,b3⟩,b4⟩,b5⟩:=hb
   rw [qM c5]
   have hr:=Ku b1
   have TQ:=Zi b5
   have hs:=Zh (f:=fun n=>[Iu n]) (b:=1) (l:=st) fun a ha=>MJy
   grind
  ·rw [qG c5]
   by_cases c1:op=1∨op=2∨op=3∨op=4
   ·rw [qM c1] at hb
    simp only [qC,qJ] at hb
    grind [Ku]
   simp_all
theorem yL {r:Rf} (h:CU r=true):Us r:=by
 obtain⟨nm,m,pl,n⟩:=r
 rw [CU,qC] at h
 have h1:=Sd h.1
 refine⟨by omega,?_⟩
 have h2:=h.2
 simp only [] at h2
 show pl.length<=_
 split at h2
 ·simp_all
 ·split at h2
  ·grind [Sd]
  simp_all
theorem aFB {op n rel val:Int} {r:Rf} {st:List Int} (hb:Av op n rel val r st=true):CU r=true:=(WK hb).1
theorem aBe {op n rel val:Int} {r:Rf} {st:List Int} (h7:¬ op=7) (h8:¬ op=8) (h9:¬ op=9) (hb:Av op n rel val r st=true) (hs:st.length<=4) (d:Nat):Small (d+1) (.mk op n rel val r st []) 1:=by
 refine⟨qN _,fun left hl=>?_,wV (yL (aFB hb)) ME,?_⟩
 ·rw [BQ,qG ME,qM]
  ·rfl
  ·have h0:Az op=0:=by rw [Az,qG h7,qG ME]
   rw [Ay,qM h0,hb];rfl
 grind [R7,aII,aCi,iB]
theorem Z8 (k:Nat) (p:Int × Ee):(RV true (dM k p)).length<=(RV true p.2).length+4:=by
 unfold dM
 split
 ·show(RV true ([tLP]++(p.2++[tRP]))).length<=_
  grind [iG,RV]
 ·omega
theorem aE9 {d na nb:Nat} {a b:Cd} {op:Int} (ho:op=8∨op=9) (ha:Small d a na) (hb:Small d b nb):Small (d+1) (.mk op 0 0 0 Bu [] [a,b]) (1+na+nb):=by
 have h1:=ha.pos
 have h2:=hb.pos
 have l1:=ha.len
 have l2:=hb.len
 refine⟨by omega,fun left hl=>?_,aKH ha.big hb.big,?_⟩
 ·rw [BQ,qG ME,qM]
  ·show(do
    let l <- BQ d a (left - 1)
    let l <- BQ d b l
    some l)=_
   rw [ha.valid _ ME]
   show(do
    let l <- BQ d b (left - 1 - na)
    some l)=_
   rw [hb.valid _ ME]
   grind
  ·rcases ho with rfl | rfl <;> rfl
 ·rcases ho with rfl | rfl
  ·rw [R8,iG]
   have k1:=Z8 2 (a.op,DZ a)
   have k2:=Z8 3 (b.op,DZ b)
   simp only [] at k1 k2
   show((RV true (dM 2 (a.op,DZ a)))++RV true ([aAg]++dM 3 (b.op,DZ b))).length<=_
   rw [iG,qD,qD]
   have k3:(RV true [aAg]).length=4:=rfl
   omega
  ·rw [R9,iG]
   have k1:=Z8 1 (a.op,DZ a)
   have k2:=Z8 2 (b.op,DZ b)
   simp only [] at k1 k2
   show((RV true (dM 1 (a.op,DZ a)))++RV true ([tOr]++dM 2 (b.op,DZ b))).length<=_
   rw [iG,qD,qD]
   have k3:(RV true [tOr]).length=3:=rfl
   omega
theorem aE8 {d na:Nat} {a:Cd} (ha:Small d a na):Small (d+1) (.mk 7 0 0 0 Bu [] [a]) (1+na):=by
 have h1:=ha.pos
 have l1:=ha.len
 refine⟨by omega,fun left hl=>?_,aKI ha.big,?_⟩
 ·rw [BQ,qG ME,qM]
  ·show(do
    let l <- BQ d a (left - 1)
    some l)=_
   rw [ha.valid _ ME]
   grind
  ·rfl
 ·rw [VL]
  have k1:=Z8 3 (a.op,DZ a)
  simp only [] at k1
  show(RV true ([aAh]++dM 3 (a.op,DZ a))).length<=_
  rw [iG,qD]
  have k3:(RV true [aAh]).length=4:=rfl
  omega
theorem aNd:Bb [112]=true:=ML
theorem aPW {nm:List UInt8} (h:Bb nm=true):CU ⟨nm,0,[],0⟩=true:=by rw [CU,h];rfl
theorem aPY {nm:List UInt8} (h:Bb nm=true):CU ⟨nm,3,[],0⟩=true:=by rw [CU,h];rfl
theorem aPZ {nm:List UInt8} {n:Int} (h:Bb nm=true) (hn:DW n=true):CU ⟨nm,2,[],n⟩=true:=by
 show(Bb nm && (decide (([]:List UInt8)=[]) && DW n))=true
 rw [h,hn];rfl
theorem aPa {nm pl:List UInt8} {n:Int} (h:Bb nm=true) (hp:Bb pl=true) (hn:DW n=true):CU ⟨nm,1,pl,n⟩=true:=by
 show(Bb nm && (Bb pl && DW n))=true
 simp_all
theorem aIA {op n:Int} {r:Rf} (ho:1<=op/\op<=4) (hr:CU r=true) (hn:DW n=true):Av op n 0 0 r []=true:=by
 unfold Av
 grind
theorem aIB {r:Rf} {st:List Int} (hr:CU r=true) (hs:KW st=true):Av 5 0 0 0 r st=true:=by
 unfold Av
 simp_all
theorem Nl (rf:Rf) (L:List Int) (j:Nat):Be (.agg [i64 5,i64 0,i64 0,i64 0, .str rf.name,i64 rf.mode, .str rf.Ae,i64 rf.n, .Dh ((L.map i64).drop j), .Ad]) (Cd.mk 5 0 0 0 rf (L.drop j) []).pv:=by
 rw [<- zM]
 grind [aF3]
abbrev iq (c:Cd):De:=⟨5,0,[],[],[],[⟨c,[1]⟩,⟨Fy,[-1,0]⟩]⟩
end Go.Proofs.YtkegmchjobphdaaGreatDoor
namespace Go.Proofs.YtkegmchjobphdaaGreatDoor
open Go Y
set_option maxRecDepth 100000
set_option maxHeartbeats 4000000
def aPc (t:List UInt8):Nat:=if t=tLP then 1 else 0
def lpP (ws:List Wd):Nat->Nat
 | 0=>0
 | q+1=>lpP ws q+aPc (YG ws q)
def pn (k:Nat) (p:Int × Nat):Nat:=p.2+if lvl p.1<k then 1 else 0
def cpJ (op:Int) (ps:List (Int × Nat)):Nat:=
 if op=9 then pn 1 (ps.getD 0 (0,0))+pn 2 (ps.getD 1 (0,0)) else if op=8 then pn 2 (ps.getD 0 (0,0))+pn 3 (ps.getD 1 (0,0)) else if op=7 then pn 3 (ps.getD 0 (0,0)) else if op=6 then 1 else 0
mutual
def cp:Cd->Nat
 | .mk op _ _ _ _ _ ar=>cpJ op (cpL ar)
def cpL:List Cd->List (Int × Nat)
 | []=>[]
 | c::r=>(c.op,cp c)::cpL r
end
def pin (k:Nat) (c:Cd):Nat:=pn k (c.op,cp c)
structure CLp (ws:List Wd) (F:Nat):Prop where
 cond:∀ {q c q'},eZ ws F q=.inr (c,q')->lpP ws q+pin 1 c<=lpP ws q'
 orr:∀ {d q c q'},orR ws F d q=.inr (c,q')->∀ s,s+pin 1 d<=lpP ws q->s+pin 1 c<=lpP ws q'
 OE:∀ {q c q'},YD ws F q=.inr (c,q')->lpP ws q+pin 2 c<=lpP ws q'
 aOM:∀ {d q c q'},aDw ws F d q=.inr (c,q')->∀ s,s+pin 2 d<=lpP ws q->s+pin 2 c<=lpP ws q'
 neg:∀ {q c q'},rz ws F q=.inr (c,q')->lpP ws q+pin 3 c<=lpP ws q'
 test:∀ {q c q'},sD ws F q=.inr (c,q')->lpP ws q+pin 4 c<=lpP ws q'
end Go.Proofs.YtkegmchjobphdaaGreatDoor
namespace Go.Proofs.YtkegmchjobphdaaGreatDoor
open Go Y
set_option maxRecDepth 100000
set_option maxHeartbeats 4000000
def lpT (x:Ee):Nat:=(x.map aPc).sum
def wgh (t:List UInt8):Int:=if t=tLP then 1 else if t=tRP then -1 else 0
def tot (x:Ee):Int:=(x.map wgh).sum
theorem Xl (x y:Ee):tot (x++y)=tot x+tot y:=by rw [tot,qX,List.sum_append];rfl
theorem yM (t:List UInt8) (x:Ee):tot (t::x)=wgh t+tot x:=by simp [tot]
structure Bal (x:Ee):Prop where
 all:tot x=0
 pre:∀ n,0<=tot (x.take n)
theorem Bal.app {x y:Ee} (hx:Bal x) (hy:Bal y):Bal (x++y):=by
 refine⟨by rw [Xl,hx.all,hy.all];rfl,fun n=>?_⟩
 rw [vZ,Xl]
 have:=hx.pre n
 have:=hy.pre (n - x.length)
 omega
def Pl (t:List UInt8):Prop:=t ≠ tLP/\t ≠ tRP
theorem Bal.par {x:Ee} (h:Bal x):Bal (tLP::(x++[tRP])):=by
 have e1:wgh tLP=1:=rfl
 have e2:tot [tRP]=-1:=rfl
 refine⟨by rw [yM,Xl,h.all,e1,e2];rfl,fun n=>?_⟩
 cases n with
 | zero=>exact Int.le_refl _
 | succ n=>
  rw [jW,yM,e1,vZ,Xl]
  have:=h.pre n
  have h3:-1<=tot ([tRP].take (n - x.length)):=by
   cases n - x.length with
   | zero=>decide
   | succ m=>rw [kX MBV];decide
  omega
structure aRe (c:Cd):Prop where
 bal:Bal (DZ c)
 lp:lpT (DZ c)=cp c
def aPb (x:Ee):List UInt8:=x.flatMap fun t=>t++[32]
set_option maxHeartbeats 40000000
structure aSB (c:Cd):Prop where
 valid:CK [iq c]=true
 all:Ie (Ig (iq c))
 num:(Ig (iq c)).length<=1500
 YG:(aCm [iq c]).length<=8000
 len:(aPb (Ig (iq c))).length<=8000
 can:aRe c
 big:NH [iq c]
set_option maxHeartbeats 4000000
def lw:Ee->Nat
 | []=>0
 | x::l=>x.length+lw l
theorem Dg (t:List UInt8) (x:Ee):lw (t::x)=t.length+lw x:=rfl
theorem Z6:lw []=0:=rfl
theorem Ih:∀ a b:Ee,lw (a++b)=lw a+lw b
 | [],b=>by simp [lw]
 | x::a,b=>by rw [kD,lw,lw,Ih a b];omega
def nbB (c:UInt8):Bool:=decide (c.toNat ≠ 32) && decide (c.toNat ≠ 10)
def nb (s:List UInt8):Nat:=(s.filter nbB).length
def PLt (p q:Nat × Nat):Prop:=p.1<q.1∨(p.1=q.1/\p.2<q.2)
theorem PLt.trans {p q r:Nat × Nat} (h:PLt p q) (k:PLt q r):PLt p r:=by
 grind [PLt]
structure WSp (s:List UInt8) (k:Nat) (acc:List Wd):Prop where
 pl:∀ w∈acc,∃ o,o<k/\o<=s.length/\w.line=(at_ s o).1/\w.Le=(at_ s o).2
 ne:∀ i j,i<j->j<acc.length->¬ ((wat acc i).line=(wat acc j).line/\(wat acc i).Le=(wat acc j).Le)
 lw:lw (acc.map Wd.text)<=nb (s.take k)
theorem VZ (n:Int):(Iu n).length<=4:=aCn 4 _
theorem Xk {n:Int} (h:n<=9):(Iu n).length<=1:=by
 rw [Iu,Zk,qM ME]
 simp_all
theorem oF {α:Type} {f:α->Ee} {b:Nat}:∀ {l:List α},(∀ a∈l,lw (f a)<=b)->lw (l.flatMap f)<=b * l.length
 | [],_=>qL _
 | a::l,h=>by
  have h1:=h a (kC ..)
  have h2:=oF (l:=l) fun x hx=>h x (qh _ hx)
  rw [xe,Ih,qR,zU];omega
theorem aIC {α:Type} {f:α->Ee} {b:Nat}:∀ {l:List α},(∀ a∈l,lw (f a)<=b)->lw (aBO f l)<=(b+1) * l.length
 | [],_=>qL _
 | a::l,h=>by
  have h1:=h a (kC ..)
  have h2:=oF (l:=l) (f:=fun b=>YF::f b) (b:=b+1) fun x hx=>by
   grind [Dg]
  show lw (f a++l.flatMap fun b=>YF::f b)<=_
  rw [Ih,qR,zU];omega
structure RfS (r:Rf):Prop where
 ok:CU r=true
 nm:r.name.length=1
 pl:r.Ae.length<=1
 n:r.n<=9
theorem aKq {r:Rf} (h:r.Ae.length<=1) (hn:r.n<=9):lw (iA r)<=5:=by
 grind [Xk,iA,Dg,Z6]
theorem aID {r:Rf} (h:RfS r):lw (dL r)<=6:=by
 have h1:=aKq h.pl h.n
 have h2:=h.nm
 rw [dL,Dg];omega
theorem aIE (k:Int):(aEl k).length<=2:=by
 grind [aEl]
theorem aKr {op n rel val:Int} {r:Rf} {st:List Int} (h:RfS r) (hn:n<=9) (hv:val<=9) (hs:st.length<=2/\∀ a∈st,a<=9):lw (Tx op n rel val r st)<=18:=by
 have h0:=aID h
 have h1:=Xk hn
 have h2:=Xk hv
 have h3:=aIE rel
 have h4:=aIE op
 have h5:=aIC (f:=fun n=>[Iu n]) (b:=1) (l:=st) fun a ha=>by
  grind [Xk,Dg,Z6]
 grind [Tx,Ih,Dg,Z6]
structure PQ (d:Nat) (c:Cd) (n k:Nat):Prop where
 sm:Small d c n
 wt:lw (DZ c)<=k
theorem PQ.leaf {op n rel val:Int} {r:Rf} {st:List Int} (h7:¬ op=7) (h8:¬ op=8) (h9:¬ op=9) (hb:Av op n rel val r st=true) (hr:RfS r) (hn:n<=9) (hv:val<=9) (hs:st.length<=2/\∀ a∈st,a<=9) (d:Nat):PQ (d+1) (.mk op n rel val r st []) 1 18:=
 ⟨aBe h7 h8 h9 hb ME d,by grind [R7,aKr]⟩
theorem yK (k:Nat) (p:Int × Ee):lw (dM k p)<=lw p.2+2:=by
 grind [dM,Ih,Dg,Z6]
theorem PQ.neg {d n k:Nat} {a:Cd} (ha:PQ d a n k):PQ (d+1) (.mk 7 0 0 0 Bu [] [a]) (1+n) (k+5):=by
 refine⟨aE8 ha.sm,?_⟩
 rw [VL]
 have h1:=ha.wt
 have h2:=yK 3 (a.op,DZ a)
 simp only [] at h2
 show lw (aAh::dM 3 (a.op,DZ a))<=_
 grind [Dg]
theorem PQ.two {d na nb ka kb:Nat} {a b:Cd} {op:Int} (ho:op=8∨op=9) (ha:PQ d a na ka) (hb:PQ d b nb kb):PQ (d+1) (.mk op 0 0 0 Bu [] [a,b]) (1+na+nb) (ka+kb+7):=by
 refine⟨aE9 ho ha.sm hb.sm,?_⟩
 have h1:=ha.wt
 have h2:=hb.wt
 rcases ho with rfl | rfl
 ·rw [R8]
  have k1:=yK 2 (a.op,DZ a)
  have k2:=yK 3 (b.op,DZ b)
  simp only [] at k1 k2
  show lw (dM 2 (a.op,DZ a)++(aAg::dM 3 (b.op,DZ b)))<=_
  grind [Ih,Dg]
 ·rw [R9]
  have k1:=yK 1 (a.op,DZ a)
  have k2:=yK 2 (b.op,DZ b)
  simp only [] at k1 k2
  show lw (dM 1 (a.op,DZ a)++(tOr::dM 2 (b.op,DZ b)))<=_
  grind [Ih,Dg]
theorem PQ.le {d n k k':Nat} {a:Cd} (h:PQ d a n k) (hk:k<=k'):PQ d a n k':=⟨h.sm,kG h.wt hk⟩
structure NuS (l:List Int):Prop where
 ok:EE l=true
 wt:lw (WM l)<=6
theorem NuS.len {l:List Int} (h:NuS l):l.length<=8:=by
 have:=h.ok
 simp only [EE,qC,qJ] at this
 exact this.1.2
structure CsS (c:Cs):Prop where
 cd:∃ n,n<=3/\PQ 8 c.cond n 43
 nu:NuS c.Ah
structure LsS (c:Cs):Prop where
 cd:c.cond=Fy
 nu:NuS c.Ah
theorem aKs:Ht Fy:=wV ⟨MEl,MBM⟩ ML
structure RuS (l:List Cs):Prop where
 ok:Bi l=true
 wt:lw (Ty l)<=166
 big:aF0 l
theorem aIF (last:Cs) (hl:LsS last):∀ pre:List Cs,(∀ c∈pre,CsS c)->DX (pre++[last])=true/\lw (KA (pre++[last]))<=51 * pre.length+11/\(∀ c∈pre++[last],Ht c.cond/\c.Ah.length<=9223372036854775807)
 | [],_=>by
  refine⟨?_,?_,fun c hc=>?_⟩
  ·show(EE last.Ah && F9 last.cond)=true
   rw [hl.nu.ok,hl.cd];rfl
  ·have:=hl.nu.wt
   show lw (aLp::aAj::WM last.Ah)<=_
   grind [Dg]
  ·have:=qP.1 hc
   subst this
   have:=hl.nu.len
   exact⟨by rw [hl.cd];exact aKs,by omega⟩
 | c::pre,h=>by
  obtain⟨h1,h2,h3⟩:=aIF last hl pre fun x hx=>h x (qh _ hx)
  obtain⟨⟨n,hn,hc⟩,hu⟩:=h c (kC ..)
  obtain⟨y,t,e⟩:∃ y t,pre++[last]=y::t:=by
   cases pre with
   | nil=>simp_all
   | cons a b=>simp_all
  rw [e] at h1 h2 h3
  rw [kD,e]
  refine⟨?_,?_,fun x hx=>?_⟩
  ·rw [DX,hu.ok,hc.sm.valid 30 ME,h1];rfl
  ·have h4:=hc.wt
   have h5:=hu.wt
   grind [KA,Ih,Dg]
  ·rcases qw.1 hx with rfl | hx
   ·have:=hu.len
    exact⟨hc.sm.big,by omega⟩
   ·exact h3 x hx
theorem Qv {pre:List Cs} {last:Cs} (hp:pre.length<=3) (h:∀ c∈pre,CsS c) (hl:LsS last):RuS (pre++[last]):=by
 obtain⟨h1,h2,h3⟩:=aIF last hl pre h
 have e:(pre++[last]).length=pre.length+1:=by simp
 refine⟨?_,?_,⟨by omega,fun c hc=>(h3 c hc).1,fun c hc=>(h3 c hc).2⟩⟩
 ·rw [Bi,h1,qE MBc,qE ME];rfl
 grind [Ty,Dg,Ih,Z6]
structure DeS (d:De) (k:Nat):Prop where
 ok:Bg d=true
 big:lT d
 wt:lw (Ig d)<=k
theorem oG {key:List UInt8} {l:List Rf} (hk:key.length<=6) (h:∀ r∈l,RfS r) (hl:l.length<=2):lw (QE key l)<=20:=by
 unfold QE
 split
 ·trivial
 ·have:=aIC (f:=dL) (b:=6) (l:=l) fun r hr=>aID (h r hr)
  rw [Dg];omega
theorem Z7 {l:List Rf} (h:∀ r∈l,RfS r):l.all CU=true:=qi.2 fun r hr=>(h r hr).ok
theorem oH {l:List Rf} (h:∀ r∈l,RfS r):∀ r∈l,Us r:=fun r hr=>yL (h r hr).ok
theorem bS0:Dq []:=Tw
theorem bS1:Dq [112]:=by rw [Dq];simp
theorem bN0:([]:List Rf).length<=9223372036854775807:=by simp
theorem aH6 {n:Int} (hn:DW n=true):DeS ⟨1,n,[],[],[],[]⟩ 10:=by
 refine⟨?_,⟨bS0,bS0,bN0,fun r hr=>MHE,nI⟩,?_⟩
 ·rw [Bg,hn];rfl
 ·have:=VZ n
  show lw [aGD,Iu n,YE]<=_
  simp only [Dg,Z6,qR,qy];omega
theorem aH7 {n:Int} (hn:DW n=true):DeS ⟨2,n,[112],[],[],[]⟩ 12:=by
 refine⟨?_,⟨bS1,bS0,bN0,fun r hr=>MHE,nI⟩,?_⟩
 ·rw [Bg,hn];rfl
 ·have:=VZ n
  show lw [aGE,[112],tEq,Iu n,YE]<=_
  simp only [Dg,Z6,qR,qy];omega
theorem ig {n:Int} {nm:List UInt8} {rs:List Rf} (hn:DW n=true) (h1:Bb nm=true) (h2:nm.length=1) (hr:∀ r∈rs,RfS r) (hl:rs.length<=2):DeS ⟨4,n,nm,[],rs,[]⟩ 33:=by
 refine⟨?_,⟨MAe,bS0,by grind,oH hr,nI⟩,?_⟩
 ·rw [Bg,hn,Z7 hr,qE MHl,BP,qG (by simp_all),qG MG0,qG MAe,qM rfl,h1];rfl
 ·have h3:=VZ n
  have h4:=oG (key:=XT) ML hr hl
  show lw (([aCG,nm,aAj,Iu n]++QE XT rs)++[YE])<=_
  simp only [Ih,Dg,Z6,qR,qy];omega
theorem aC5 {rs:List Rf} {cs:List Cs} (hr:∀ r∈rs,RfS r) (hl:rs.length<=2) (hc:RuS cs):DeS ⟨5,0,[],[],rs,cs⟩ 192:=by
 refine⟨?_,⟨bS0,bS0,by grind,oH hr,hc.big⟩,?_⟩
 ·rw [Bg,Z7 hr,qE MHl,BP,qG (by simp_all),qG (by simp_all),qG MG0,qG MAe,qM rfl,hc.ok];rfl
 ·have h4:=oG (key:=Vx) ML hr hl
  have h5:=hc.wt
  show lw ((aLo::(QE Vx rs++(tEq::Ty cs)))++[YE])<=_
  grind [Ih,Dg,Z6]
theorem aC6 {n:Int} {nm pl:List UInt8} {rs:List Rf} {cs:List Cs} (hn:DW n=true) (h1:Bb nm=true) (h2:nm.length=1) (hp:pl=[]∨pl=[112]) (hr:∀ r∈rs,RfS r) (hl:rs.length<=2) (hc:RuS cs):DeS ⟨3,n,nm,pl,rs,cs⟩ 201:=by
 refine⟨?_,⟨MAe,by grind,by grind,oH hr,hc.big⟩,?_⟩
 ·rw [Bg,hn,Z7 hr,qE MHl,BP,qG MG0,qG MAe,qM rfl,h1,hc.ok]
  rcases hp with rfl | rfl <;> rfl
 ·have h3:=VZ n
  have h4:=oG (key:=Vx) ML hr hl
  have h5:=hc.wt
  have h6:lw (if pl=[] then [] else [tLB,pl,tRB])<=3:=by rcases hp with rfl | rfl <;> decide
  show lw (([aLn,nm]++((if pl=[] then [] else [tLB,pl,tRB])++([aAj,Iu n]++(QE Vx rs++(tEq::Ty cs)))))++[YE])<=_
  grind [Ih,Dg]
theorem aIG:∀ {x:Ee},Ie x->x.length<=lw x
 | [],_=>qN _
 | t::x,h=>by
  have h1:=(nJ (h t (kC ..))).1
  have h2:=aIG (x:=x) fun u hu=>h u (qh _ hu)
  rw [Dg,qR];omega
theorem aIH:∀ x:Ee,(RV true x).length<=lw x+x.length
 | []=>qN _
 | t::x=>by
  have:=aIH x
  show([32]++(t++RV true x)).length<=_
  simp only [qD,qR,qy,Dg];omega
structure PrS (ds:List De) (k:Nat):Prop where
 ok:∀ d∈ds,Bg d=true/\lT d
 wt:lw (ds.flatMap Ig)<=k
theorem PrS.nil:PrS [] 0:=⟨fun d hd=>(by cases hd),qN _⟩
theorem PrS.snoc {ds:List De} {d:De} {k j:Nat} (h:PrS ds k) (hd:DeS d j):PrS (ds++[d]) (k+j):=by
 refine⟨fun x hx=>?_,?_⟩
 ·rcases qa.1 hx with hx | hx
  ·exact h.ok x hx
  ·rw [qP.1 hx];exact⟨hd.ok,hd.big⟩
 ·have h1:=h.wt
  have h2:=hd.wt
  grind [Ih]
theorem PrS.le {ds:List De} {k k':Nat} (h:PrS ds k) (hk:k<=k'):PrS ds k':=⟨h.ok,kG h.wt hk⟩
theorem aC8:∀ ds:List De,(aCm ds).length<=lw (ds.flatMap Ig)+aHQ ds
 | []=>qN _
 | d::ds=>by
  have h1:=aC8 ds
  have h2:=aIH (Ig d)
  rw [aNA (aKK d),qR] at h2
  have h3:aHQ (d::ds)=(Ig d).length+aHQ ds:=rfl
  show((RV false (Ig d)++[10])++aCm ds).length<=_
  grind [Ih]
theorem aFA {ds:List De} (h:∀ d∈ds,Bg d=true):Ie (ds.flatMap Ig):=fun t ht=>by
 obtain⟨d,hd,ht⟩:=jV.1 ht
 exact(aEn (h d hd)).1 t ht
structure DrP (ds:List De):Prop where
 valid:CK ds=true
 big:NH ds
 YG:(aCm ds).length<=2600
 GJ:aHQ ds<=1300
 lw:lw (ds.flatMap Ig)<=1300
theorem PrS.fin {ds:List De} {k:Nat} (h:PrS ds k) (hl:ds.length<=30) (hk:k<=1300):DrP ds:=by
 have h1:=aC8 ds
 have h2:=h.wt
 have h3:=aIG (aFA fun d hd=>(h.ok d hd).1)
 rw [wX] at h3
 refine⟨?_,⟨by omega,fun d hd=>(h.ok d hd).2⟩,by omega,by omega,by omega⟩
 rw [CK,qE hl,qi.2 fun d hd=>(h.ok d hd).1];rfl
structure Pc where
 w:UInt8
 o:UInt8
 n:UInt8
 m:UInt8
 x:UInt8
 y:UInt8
 z:UInt8
abbrev Pc.cells (p:Pc):List PV:=[u8 p.w,u8 p.o,u8 p.n,u8 p.m,u8 p.x,u8 p.y,u8 p.z]
def wO3 (a b c:UInt8):Ag:=⟨24,false, .bx [.p (u8 a), .p (u8 b), .p (u8 c)]⟩
structure Wgt (l:List Int) (k:Nat):Prop where
 len:l.length=k
 bd:∀ x∈l,0<=x/\x<=12
theorem Wgt.snoc {l:List Int} {k:Nat} {v:Int} (h:Wgt l k) (h1:0<=v) (h2:v<=12):Wgt (l++[v]) (k+1):=by
 refine⟨by rw [qD,h.len];rfl,fun x hx=>?_⟩
 rcases qa.1 hx with hx | hx
 ·exact h.bd x hx
 ·rw [qP.1 hx];exact⟨h1,h2⟩
theorem aNe {n:Int} (h:0<=n/\n<=12):lw (dN n)<=2:=by
 rw [dN,qG ME,Dg,Z6,Iu,Zk]
 split
 ·exact Nat.le_succ_of_le (qN _)
 ·rw [Zk,qM ME]
  exact qN _
theorem Wgt.nu {l:List Int} {k:Nat} (h:Wgt l k) (hk:k=2∨k=3):NuS l:=by
 have h1:=h.len
 refine⟨?_,?_⟩
 ·rw [EE,qE MBc,qE ME,qi.2]
  ·rfl
  ·intro x hx
   have:=h.bd x hx
   rw [Im,qE MBc,qE ME];rfl
 ·have:=oF (f:=dN) (b:=2) (l:=l) fun x hx=>aNe (h.bd x hx)
  rw [WM];omega
theorem aC7 (n:Nat) {g:Int} (h:0<=g):0<=(n:Int).tmod (g+1)/\(n:Int).tmod (g+1)<=g:=by
 have h1:=Int.tmod_nonneg (g+1) (kV n)
 have h2:=Int.tmod_lt_of_pos (n:Int) (show 0<g+1 by omega)
 omega
theorem Qu (a b c:UInt8) (k:Nat) (g:Int) (hk:k=2∨k=3) (hg:0<=g/\g<=12):Pure cx 52 [.agg [u8 a,u8 b,u8 c],i64 (k:Int),i64 g] fun r=>∃ l,r=.ret [ints l]/\Wgt l k:=by
 refine pure_of_vc Tryz.func52 rfl rfl rfl ?_
 refine⟨Nat × List Int × Int,fun x=>[(1, .p (i64 (k:Int))),(3, .ptr 0 0 0),(7, .sl 1 1 0 x.2.1.length),(8, .p (i64 x.2.2)),(9, .p (i64 x.1))],fun x=>⟨2,[(1,iO x.2.1),(0,wO3 a b c)]⟩,fun x=>x.1+1<=k/\Wgt x.2.1 x.1/\0<=x.2.2/\x.2.2<=12,fun x=>k - x.1,?_,?_⟩
 ·exact⟨(0,[],g),⟨by show 0+1<=k;omega,⟨rfl,fun x hx=>by cases hx⟩,hg⟩,AA [] [] [(1,1)] rfl (sk) (sk) rfl⟩
 rintro⟨i,acc,g⟩ ⟨k1,k2,k3,k4⟩
 simp only [] at k1 k2 k3 k4
 clear hg
 by_cases i2:i+1=k
 ·refine⟨(i:Int),by rw [<- i2];rw [show((i+1:Nat):Int) - 1=(i:Int) by omega];exact wrap_i64 MBc ME,?_⟩
  refine And.intro (fun h=>absurd (show(i:Int)<(i:Int) from h) ME) (fun _=>?_)
  refine⟨MO,[i64 g],rfl,?_⟩
  refine⟨by show 0+acc.length<=(acc.map i64).length;simp,acc.map i64,AB MBV,by show(acc.length+1) * 8<=140737488355328;have:=k2.len;omega,(acc++[g]).map i64,by simp,?_⟩
  refine AL (ints (acc++[g])) rfl ⟨_,rfl,by show 0+(acc.length+1)<=((acc++[g]).map i64).length;simp,AB MBV⟩ ⟨_,rfl,by rw [<- i2];exact k2.snoc k3 k4⟩
 refine⟨(k:Int) - 1,wrap_i64 MBc ME,?_⟩
 refine And.intro (fun _=>?_) (fun h=>absurd (show(i:Int)<(k:Int) - 1 by omega) h)
 by_cases i0:i=0
 ·subst i0
  refine⟨by show(0:Int)<=_/\_<_;exact MCb,?_⟩
  refine⟨.p (u8 a),Pb MK rfl,?_⟩
  refine⟨((a).toNat:Int),wrap_i64 ME (by have:=(a).toNat_lt;omega),?_⟩
  refine⟨g+1,wrap_i64 MBc ME,?_⟩
  have hv:=aC7 (a).toNat k3
  refine⟨by show ¬ g+1=0;omega,?_⟩
  generalize (((a).toNat:Int)).tmod (g+1)=v at hv ⊢
  refine⟨MO,[i64 v],rfl,?_⟩
  refine MEa ?_
  refine⟨g - v,wrap_i64 MBc ME,?_⟩
  refine⟨((1:Nat):Int),by show((1:Nat):Int)=IntKind.i64.wrap (((0:Nat):Int)+1);exact wrap_i64 MBc ME,?_⟩
  exact⟨(1,acc++[v],g - v),⟨by show 1+1<=k;omega,k2.snoc hv.1 MBc,by show 0<=g - v;omega,by show g - v<=12;omega⟩,AA [] [(1,3)] [] rfl MGW (sk) rfl,by show k - 1<k - 0;omega⟩
 ·obtain rfl:i=1:=by omega
  refine⟨by show(0:Int)<=_/\_<_;exact MCb,?_⟩
  refine⟨.p (u8 b),Pb MK rfl,?_⟩
  refine⟨((b).toNat:Int),wrap_i64 ME (by have:=(b).toNat_lt;omega),?_⟩
  refine⟨g+1,wrap_i64 MBc ME,?_⟩
  have hv:=aC7 (b).toNat k3
  refine⟨by show ¬ g+1=0;omega,?_⟩
  generalize (((b).toNat:Int)).tmod (g+1)=v at hv ⊢
  refine⟨MO,[i64 v],rfl,?_⟩
  refine MEa ?_
  refine⟨g - v,wrap_i64 MBc ME,?_⟩
  refine⟨((2:Nat):Int),by show((2:Nat):Int)=IntKind.i64.wrap (((1:Nat):Int)+1);exact wrap_i64 MBc ME,?_⟩
  exact⟨(2,acc++[v],g - v),⟨by show 2+1<=k;omega,k2.snoc hv.1 MBc,by show 0<=g - v;omega,by show g - v<=12;omega⟩,AA [] [(1,3)] [] rfl MGW (sk) rfl,by show k - 2<k - 1;omega⟩
set_option maxHeartbeats 40000000
structure Pt where
 kind:UInt8
 card:UInt8
 SC:UInt8
 Eu:UInt8
 pl:Bool
 cases:List Pc
 x:UInt8
 y:UInt8
 z:UInt8
abbrev Pt.cells (p:Pt):List PV:=[u8 p.kind,u8 p.card,u8 p.SC,u8 p.Eu, .bool p.pl, .Ai 7 (p.cases.map Pc.cells),u8 p.x,u8 p.y,u8 p.z]
structure Kn where
 nm:List UInt8
 card:Int
 pl:Bool
abbrev Kn.cells (k:Kn):List PV:=[.str k.nm,i64 k.card, .bool k.pl]
def kn0:Kn:=⟨[],0,false⟩
structure KnS (k:Kn):Prop where
 ok:Bb k.nm=true
 len:k.nm.length=1
 card:k.card=2∨k.card=3
structure RcS (rs:List Rf) (cs:List Int):Prop where
 refs:∀ r∈rs,RfS r
 Ah:∀ c∈cs,c=2∨c=3
 eq:rs.length=cs.length
 len:rs.length<=2
theorem RcS.snoc {rs:List Rf} {cs:List Int} {r:Rf} {c:Int} (h:RcS rs cs) (hr:RfS r) (hc:c=2∨c=3) (hl:rs.length<2):RcS (rs++[r]) (cs++[c]):=by
 have h1:=h.eq
 refine⟨fun x hx=>?_,fun x hx=>?_,by rw [qD,qD];simp only [qR,qy];omega,by rw [qD];simp only [qR,qy];omega⟩
 ·rcases qa.1 hx with hx | hx
  ·exact h.refs x hx
  ·rw [qP.1 hx];exact hr
 ·rcases qa.1 hx with hx | hx
  ·exact h.Ah x hx
  ·rw [qP.1 hx];exact hc
def ptO (p:Pt):Ag:=⟨26,false, .bx (p.cells.map .p)⟩
def Z5 (rs:List Rf):Ag:=⟨aOP,false, .GN (rs.map Rf.cells)⟩
theorem wrap_u64 {n:Int} (h0:0<=n) (h1:n<18446744073709551616):n=IntKind.u64.wrap n:=by
 show n=n % 18446744073709551616
 omega
def RfQ (e:AE) (H':Hp):Prop:=∃ rs cs,e=.returned (.GG [.sl 0 4 0 rs.length, .sl 1 1 0 cs.length])/\H'=⟨2,[(0,Z5 rs),(1,iO cs)]⟩/\RcS rs cs
theorem aNc {l:List Kn} {k:Nat} (h:k<l.length):(l.map Kn.cells)[k]?=some (l.getD k kn0).cells:=Ct kn0 h
theorem Qz (v:Nat) (e:Int) (he:0<e) (hv:v<256):0<=(v:Int).fdiv e/\(v:Int).fdiv e<=255:=by
 have h1:=Int.fdiv_nonneg (kV v) (Int.le_of_lt he)
 have h2:(v:Int).fdiv e<=v:=by
  rw [zh _ (Int.le_of_lt he)]
  exact Int.ediv_le_self _ (kV v)
 omega
theorem Nn (e:Nat):(0:Int)<2 ^ e:=Int.pow_pos ML
theorem Gs {n g:Int} (h:0<=n) (hg:0<g):0<=n.tmod g/\n.tmod g<g:=⟨Int.tmod_nonneg _ h,Int.tmod_lt_of_pos _ hg⟩
theorem aRa {nm:List UInt8} (h:Bb nm=true) (hl:nm.length=1):RfS ⟨nm,0,[],0⟩:=⟨aPW h,hl,qL _,by show(0:Int)<=9;decide⟩
theorem aPX {nm:List UInt8} (h:Bb nm=true) (hl:nm.length=1):RfS ⟨nm,3,[],0⟩:=⟨aPY h,hl,qL _,by show(0:Int)<=9;decide⟩
theorem aRb {nm:List UInt8} {n:Int} (h:Bb nm=true) (hl:nm.length=1) (hn:0<=n/\n<2):RfS ⟨nm,2,[],n⟩:=⟨aPZ h (Jv hn.1 ME),hl,qL _,by show n<=9;omega⟩
theorem aRc {nm:List UInt8} {n:Int} (h:Bb nm=true) (hl:nm.length=1) (hn:0<=n/\n<2):RfS ⟨nm,1,[112],n⟩:=⟨aPa h aNd (Jv hn.1 ME),hl,qN _,by show n<=9;omega⟩
abbrev aRd:OT:=(.pure 0 (.pure 1 (.pure 2 (.pure 3 (.A8 4 [] (.pure 5 (.A8 6 [] .fin .nil)) .nil)))))
theorem Qt (p:Pt) (l:List Kn) (hl:∀ k∈l,KnS k) (h5:l.length<=5) (g:Bool) (sz:Int) (hs:sz=1∨sz=2):A7 cx 29 [.p (.agg p.cells), .p (.Ai 3 (l.map Kn.cells)),vB g, .p (i64 sz)] ⟨0,[]⟩ (RfQ):=by
 refine holdsN_of_vc Tryz.func29 rfl rfl rfl ?_
 have TK:(l.map Kn.cells).length=l.length:=qB ..
 refine⟨Nat × List Rf × List Int,fun x=>[(1, .p (.Ai 3 (l.map Kn.cells))),(2,vB g),(3, .p (i64 sz)),(4, .ptr 0 0 0),(10, .sl 1 4 0 x.2.1.length),(11, .sl 2 1 0 x.2.2.length),(12, .p (i64 x.1))],fun x=>⟨3,[(2,iO x.2.2),(1,Z5 x.2.1),(0,ptO p)]⟩,fun x=>x.1<=l.length/\RcS x.2.1 x.2.2,fun x=>l.length - x.1,?_,?_⟩
 ·exact⟨(0,[],[]),⟨qL _,⟨fun r hr=>(by cases hr),fun r hr=>MHE,rfl,ML⟩⟩,AA [] [] [(1,4),(2,1)] rfl (sk) (sk) rfl⟩
 rintro⟨i,rs,cs⟩ ⟨k1,k2⟩
 simp only [] at k1 k2
 by_cases hi:i<l.length
 rotate_left
 ·refine And.intro (fun h=>absurd (show(i:Int)<((l.map Kn.cells).length:Nat) from h) (by rw [TK];omega)) (fun _=>?_)
  exact MDy
 refine And.intro (fun _=>?_) (fun h=>absurd (show(i:Int)<((l.map Kn.cells).length:Nat) by rw [TK];omega) h)
 by_cases h2:rs.length<2
 rotate_left
 ·refine And.intro (fun h=>absurd (show(rs.length:Int)<2 from h) ME) (fun _=>?_)
  exact MDy
 refine And.intro (fun _=>?_) (fun h=>absurd (show(rs.length:Int)<2 by omega) h)
 have AO:=aNc hi
 have hS:=hl _ (Aa kn0 hi)
 generalize l.getD i kn0=kn at AO hS
 obtain⟨nm,card,b⟩:=kn
 have hm:=p.Eu.toNat_lt
 have hf:=p.SC.toNat_lt
 cases b
 ·refine⟨(i:Int),wrap_u64 MBc ME,?_⟩
  refine⟨by omega,?_⟩
  have O0:=Qz p.SC.toNat _ (Nn (min ((i:Int).toNat) (IntKind.u8.bits))) hf
  generalize (p.SC.toNat:Int).fdiv (2 ^ (min ((i:Int).toNat) (IntKind.u8.bits)))=sf at O0 ⊢
  refine⟨ML,?_⟩
  by_cases hz:sf.tmod 2=0
  ·exact MB1
  refine MKK ?_
  clear hz O0
  refine⟨_,MAa,?_⟩
  refine MDw ?_
  refine MKf ?_
  refine⟨by omega,?_⟩
  have U4:=Qz p.Eu.toNat _ (Nn (min (((2 * i:Nat):Int).toNat) (IntKind.u8.bits))) hm
  generalize (p.Eu.toNat:Int).fdiv (2 ^ (min (((2 * i:Nat):Int).toNat) (IntKind.u8.bits)))=sm at U4 ⊢
  refine⟨sm,wrap_i64 MBc ME,?_⟩
  refine⟨ML,?_⟩
  have hs3:=Gs U4.1 (show(0:Int)<4 from ML)
  generalize sm.tmod 4=m at hs3 ⊢
  refine⟨_,MAa,?_⟩
  refine⟨MO,[[.str nm,i64 0, .str [],i64 0]],rfl,?_⟩
  refine⟨MCa,rs.map Rf.cells,AB MBV,MFu,(rs++[Rf.mk nm 0 [] 0]).map Rf.cells,by simp,?_⟩
  refine⟨_,MAa,?_⟩
  refine⟨MO,[i64 card],rfl,?_⟩
  refine MAK ?_
  refine MDP ?_
  exact⟨(i+1,rs++[Rf.mk nm 0 [] 0],cs++[card]),⟨MJH,k2.snoc (aRa hS.ok hS.len) hS.card h2⟩,AA [] [(1,5),(2,7)] [] rfl MBQ (sk) rfl,MDF⟩
 cases g
 ·refine⟨(i:Int),wrap_u64 MBc ME,?_⟩
  refine⟨by omega,?_⟩
  have O0:=Qz p.SC.toNat _ (Nn (min ((i:Int).toNat) (IntKind.u8.bits))) hf
  generalize (p.SC.toNat:Int).fdiv (2 ^ (min ((i:Int).toNat) (IntKind.u8.bits)))=sf at O0 ⊢
  refine⟨ML,?_⟩
  by_cases hz:sf.tmod 2=0
  ·exact MB1
  refine MKK ?_
  clear hz O0
  refine⟨_,MAa,?_⟩
  refine MDw ?_
  refine MKf ?_
  refine⟨by omega,?_⟩
  have U4:=Qz p.Eu.toNat _ (Nn (min (((2 * i:Nat):Int).toNat) (IntKind.u8.bits))) hm
  generalize (p.Eu.toNat:Int).fdiv (2 ^ (min (((2 * i:Nat):Int).toNat) (IntKind.u8.bits)))=sm at U4 ⊢
  refine⟨sm,wrap_i64 MBc ME,?_⟩
  refine⟨ML,?_⟩
  have hs3:=Gs U4.1 (show(0:Int)<4 from ML)
  generalize sm.tmod 4=m at hs3 ⊢
  refine⟨_,MAa,?_⟩
  refine And.intro (fun h3=>?_) (fun h3=>?_)
  ·exact MBj
  ·refine AR aRd MK ?_
   refine⟨by show ¬ sz=0;omega,?_⟩
   have hn:=Gs hs3.1 (show 0<sz by omega)
   generalize m.tmod sz=n at hn ⊢
   refine⟨MO,[[.str nm,i64 2, .str [],i64 n]],rfl,?_⟩
   refine⟨MCa,rs.map Rf.cells,AB MBV,MFu,(rs++[Rf.mk nm 2 [] n]).map Rf.cells,by simp,?_⟩
   refine⟨_,MAa,?_⟩
   refine⟨MO,[i64 card],rfl,?_⟩
   refine MAK ?_
   refine MDP ?_
   exact⟨(i+1,rs++[Rf.mk nm 2 [] n],cs++[card]),⟨MJH,k2.snoc (aRb hS.ok hS.len ⟨hn.1,by omega⟩) hS.card h2⟩,AA [] [(1,5),(2,7)] [] rfl MBQ (sk) rfl,MDF⟩
 ·refine⟨(i:Int),wrap_u64 MBc ME,?_⟩
  refine⟨by omega,?_⟩
  have O0:=Qz p.SC.toNat _ (Nn (min ((i:Int).toNat) (IntKind.u8.bits))) hf
  generalize (p.SC.toNat:Int).fdiv (2 ^ (min ((i:Int).toNat) (IntKind.u8.bits)))=sf at O0 ⊢
  refine⟨ML,?_⟩
  by_cases hz:sf.tmod 2=0
  ·exact MB1
  refine MKK ?_
  clear hz O0
  refine⟨_,MAa,?_⟩
  refine MDw ?_
  refine MKf ?_
  refine⟨by omega,?_⟩
  have U4:=Qz p.Eu.toNat _ (Nn (min (((2 * i:Nat):Int).toNat) (IntKind.u8.bits))) hm
  generalize (p.Eu.toNat:Int).fdiv (2 ^ (min (((2 * i:Nat):Int).toNat) (IntKind.u8.bits)))=sm at U4 ⊢
  refine⟨sm,wrap_i64 MBc ME,?_⟩
  refine⟨ML,?_⟩
  have hs3:=Gs U4.1 (show(0:Int)<4 from ML)
  generalize sm.tmod 4=m at hs3 ⊢
  refine⟨_,MAa,?_⟩
  refine And.intro (fun h3=>?_) (fun h3=>?_)
  ·refine⟨ML,?_⟩
   have hn:=Gs hs3.1 (show(0:Int)<2 from ML)
   generalize m.tmod 2=n at hn ⊢
   refine⟨MO,[[.str nm,i64 1, .str [112],i64 n]],rfl,?_⟩
   refine⟨MCa,rs.map Rf.cells,AB MBV,MFu,(rs++[Rf.mk nm 1 [112] n]).map Rf.cells,by simp,?_⟩
   refine⟨_,MAa,?_⟩
   refine⟨MO,[i64 card],rfl,?_⟩
   refine MAK ?_
   refine MDP ?_
   exact⟨(i+1,rs++[Rf.mk nm 1 [112] n],cs++[card]),⟨MJH,k2.snoc (aRc hS.ok hS.len hn) hS.card h2⟩,AA [] [(1,5),(2,7)] [] rfl MBQ (sk) rfl,MDF⟩
  ·have h3:¬ m<3:=h3
   refine And.intro (fun h4=>?_) (fun h4=>absurd (show m=3 by omega) h4)
   exact MBj
abbrev aPT:OT:=(.pure 0 (.pure 1 (.pure 2 (.pure 3 (.pure 4 (.pure 5 (.pure 6 (.pure 7 (.pure 8 (.pure 9 (.pure 10 (.pure 11 (.pure 12 (.pure 13 (.pure 14 (.pure 15 (.pure 16 (.pure 17 (.A8 18 [15,11,10,8,3,1] (.A8 19 [] .fin .nil) .nil)))))))))))))))))))
abbrev aPU:OT:=(.pure 0 (.pure 1 (.pure 2 (.pure 3 (.pure 4 (.pure 5 (.pure 6 (.pure 7 (.pure 8 (.pure 9 (.pure 10 (.pure 11 (.pure 12 (.pure 13 (.pure 14 (.pure 15 (.pure 16 (.pure 17 (.pure 18 (.pure 19 (.pure 20 (.pure 21 (.pure 22 (.A8 23 [] .fin .nil))))))))))))))))))))))))
abbrev aPV:OT:=(.pure 0 (.pure 1 (.pure 2 (.pure 3 (.pure 4 (.pure 5 (.pure 6 (.A8 7 [3,2] (.pure 8 (.A8 9 [3,2] (.pure 10 (.A8 11 [] .fin .nil)) .nil)) .nil))))))))
abbrev ik:OT:=(.pure 0 (.pure 1 (.pure 2 (.pure 3 (.pure 4 (.pure 5 (.pure 6 (.A8 7 [4,1] (.pure 8 (.A8 9 [4] (.pure 10 (.A8 11 [] .fin .nil)) .nil)) .nil))))))))
abbrev il:OT:=(.pure 0 (.pure 1 (.pure 2 (.pure 3 (.pure 4 (.pure 5 (.pure 6 (.pure 7 (.pure 8 (.A8 9 [5,3,1] (.A8 10 [3,1] (.pure 11 (.A8 12 [] .fin .nil)) .nil) .nil))))))))))
def LfQ (r:PEnd):Prop:=∃ (y:PV) (c:Cd),r=.ret [y]/\Be y c.pv/\∀ d,PQ (d+1) c 1 18
def CdQ (r:PEnd):Prop:=∃ (y:PV) (c:Cd) (n:Nat),r=.ret [y]/\Be y c.pv/\n<=3/\PQ 8 c n 43
structure RcA (rs:List Rf) (cs:List Int):Prop where
 ok:RcS rs cs
 pos:1<=rs.length
theorem aMD:∀ j,j<2->KW (([0,1]:List Int).drop j)=true/\(([0,1]:List Int).drop j).length<=2/\∀ a∈([0,1]:List Int).drop j,a<=9:=ML
theorem aH9 {l:List Int} {k:Nat} (h:k<l.length):(l.map i64)[k]?=some (i64 (l.getD k 0)):=Ct 0 h
theorem Ot (op:Int) {ys:List (List PV)} {l:List Cd} (h:BZ ys (Db l)):Be (.agg [i64 op,i64 0,i64 0,i64 0, .str [],i64 0, .str [],i64 0, .Ad, .Ai 10 ys]) (Cd.mk op 0 0 0 Bu [] l).pv:=by
 show Be _ (.agg [i64 op,i64 0,i64 0,i64 0, .str [],i64 0, .str [],i64 0, .Dh [], .Ai 10 (Db l)])
 simp only [Be,BL]
 exact⟨_,rfl,_,_,rfl,rfl,_,_,rfl,rfl,_,_,rfl,rfl,_,_,rfl,rfl,_,_,rfl,rfl,_,_,rfl,rfl,_,_,rfl,rfl,_,_,rfl,rfl,_,_,rfl, .inr (.inl rfl),_,_,rfl,⟨_,rfl,h⟩,rfl⟩
theorem oD {a b:List PV} (h:Be (.agg a) (.agg b)):BL a b:=by
 simp only [Be] at h
 obtain⟨z,e,h⟩:=h
 injection e with e
 subst e
 exact h
theorem oC {a:List PV} {c:Cd} (h:Be (.agg a) c.pv):BZ [a] (Db [c]):=by
 simp only [BZ,Db]
 exact⟨_,_,rfl,oD h,rfl⟩
theorem Qy {a b:List PV} {c d:Cd} (h:Be (.agg a) c.pv) (h2:Be (.agg b) d.pv):BZ [a,b] (Db [c,d]):=by
 simp only [BZ,Db]
 exact⟨_,_,rfl,oD h,_,_,rfl,oD h2,rfl⟩
theorem wrap_u8' {n:Nat} (h:n<256):(n:Int)=IntKind.u8.wrap (n:Int):=by
 show(n:Int)=(n:Int) % 256
 omega
theorem Qw (w:UInt8):((UInt8.ofNat (w.toNat+1)).toNat:Int)=IntKind.u8.wrap ((w.toNat:Int)+1):=by
 show((UInt8.ofNat (w.toNat+1)).toNat:Int)=((w.toNat:Int)+1) % 256
 rw [zO]
 omega
theorem Qx (n:UInt8):((UInt8.ofNat (n.toNat / 2)).toNat:Int)=IntKind.u8.wrap ((n.toNat:Int).tdiv 2):=by
 have hn:=n.toNat_lt
 rw [show(n.toNat:Int).tdiv 2=((n.toNat / 2:Nat):Int) from rfl,<- wrap_u8' ME,zO]
 omega
theorem aBd (p:Pc) (rs:List Rf) (cs:List Int) (h:RcA rs cs) (hm3:3<=p.m.toNat % 8):Pure cx 51 [.agg p.cells,FX rs,ints cs] LfQ:=by
 refine pure_of_vc Tryz.func51 rfl rfl rfl ?_
 obtain⟨w,o,n,m,x,y,z⟩:=p
 simp only [] at hm3
 have TK:(rs.map Rf.cells).length=rs.length:=qB ..
 have nC:=h.pos
 have hk:(w.toNat:Int).tmod ((rs.map Rf.cells).length:Nat)=((w.toNat % rs.length:Nat):Int):=by rw [TK];rfl
 have J2:w.toNat % rs.length<rs.length:=zy _ ME
 generalize w.toNat % rs.length=k at hk J2
 have AO:=G7 J2
 have hkc:k<cs.length:=by have:=h.ok.eq;omega
 have Gu:=aH9 hkc
 have hrf:=h.ok.refs _ (Aa Bu J2)
 have hcd:=h.ok.Ah _ (Aa 0 hkc)
 generalize rs.getD k Bu=rf at AO hrf
 generalize cs.getD k 0=cd at Gu hcd
 obtain⟨nm,md,pl,rn⟩:=rf
 have hw:=w.toNat_lt
 have ho:=o.toNat_lt
 have hn:=n.toNat_lt
 have hm:=m.toNat_lt
 have eo:((o.toNat % 4:Nat):Int)=IntKind.i64.wrap ((o.toNat:Int).tmod 4):=by
  exact MHX
 have en:(n.toNat:Int)=IntKind.i64.wrap (n.toNat:Int):=wrap_i64 MBc ME
 have hv0:=Gs (kV n.toNat) (show 0<cd by omega)
 have hv:=hv0
 have e8:(m.toNat:Int).tmod 8=((m.toNat % 8:Nat):Int):=rfl
 have f8:(o.toNat:Int).tmod 8=((o.toNat % 8:Nat):Int):=rfl
 have DF:=hrf.ok
 refine⟨(w.toNat:Int),wrap_i64 MBc ME,?_⟩
 refine⟨MID,?_⟩
 generalize (w.toNat:Int).tmod ((rs.map Rf.cells).length:Nat)=kk at hk ⊢
 subst hk
 refine AR aPT MK ?_
 refine⟨ML,?_⟩
 refine MIr ?_
 refine MFW ?_
 refine⟨_,MCd,?_⟩
 refine MH6 ?_
 refine⟨_,MFU,?_⟩
 refine⟨MIo,?_⟩
 generalize (n.toNat:Int).tmod cd=v at hv ⊢
 refine⟨ME8,?_⟩
 refine⟨_,MCd,?_⟩
 refine And.intro (fun h3=>?_) (fun h3=>?_)
 ·have h3:md=3:=h3
  refine AR aPU MK ?_
  refine⟨_,MCd,?_⟩
  refine MH6 ?_
  refine⟨_,MFU,?_⟩
  refine⟨MIo,?_⟩
  clear hv
  have hv:=hv0
  generalize (n.toNat:Int).tmod cd=v at hv ⊢
  refine⟨ML,?_⟩
  refine MIr ?_
  refine MFW ?_
  refine⟨MBM,((n.toNat / 8:Nat):Int),wrap_u8' ME,?_⟩
  refine⟨((n.toNat / 8:Nat):Int),wrap_i64 MBc ME,?_⟩
  refine⟨ML,?_⟩
  have hq:=Gs (kV (n.toNat / 8)) (show(0:Int)<4 from ML)
  generalize ((n.toNat / 8:Nat):Int).tmod 4=q at hq ⊢
  have hC1:∀ d,PQ (d+1) (.mk 6 q (1+((o.toNat % 4:Nat):Int)) v ⟨nm,md,pl,rn⟩ [] []) 1 18:=PQ.leaf (by decide) MKG MHz MFQ hrf MBc ME MHD
  refine⟨ML,?_⟩
  refine MB4 ?_
  refine MAC ?_
  refine MB3 ?_
  refine MGn ?_
  exact⟨_, .mk 6 q (1+((o.toNat % 4:Nat):Int)) v ⟨nm,md,pl,rn⟩ [] [],rfl,F3 6 q (1+((o.toNat % 4:Nat):Int)) v ⟨nm,md,pl,rn⟩,hC1⟩
 ·refine⟨ML,?_⟩
  by_cases h6:5<o.toNat % 8
  rotate_left
  ·refine MIG ?_
   have hC2:∀ d,PQ (d+1) (.mk (1+((o.toNat % 4:Nat):Int)) v 0 0 ⟨nm,md,pl,rn⟩ [] []) 1 18:=PQ.leaf (by omega) (by omega) MI8 (aIA MDV DF (Jv hv.1 MBc)) hrf ME MEl MHD
   refine⟨ML,?_⟩
   refine MB4 ?_
   refine MAC ?_
   refine MB3 ?_
   refine MGo ?_
   exact⟨_, .mk (1+((o.toNat % 4:Nat):Int)) v 0 0 ⟨nm,md,pl,rn⟩ [] [],rfl,F3 (1+((o.toNat % 4:Nat):Int)) v 0 0 ⟨nm,md,pl,rn⟩,hC2⟩
  refine MIu ?_
  refine AR aPV MK ?_
  refine MH6 ?_
  refine⟨ML,?_⟩
  have hj:(n.toNat:Int).tmod 2=((n.toNat % 2:Nat):Int):=rfl
  have hj2:n.toNat % 2<2:=zy _ ML
  generalize n.toNat % 2=j at hj hj2
  generalize (n.toNat:Int).tmod 2=jj at hj ⊢
  subst hj
  have s01:=aMD j hj2
  refine⟨MI4,?_⟩
  refine⟨MDX,?_⟩
  refine⟨MDX,?_⟩
  have hC3:∀ d,PQ (d+1) (.mk 5 0 0 0 ⟨nm,md,pl,rn⟩ (([0,1]:List Int).drop j) []) 1 18:=PQ.leaf MKG MHz MEl (aIB DF s01.1) hrf MBM ML s01.2
  refine⟨ML,?_⟩
  refine MB4 ?_
  refine MAC ?_
  refine MB3 ?_
  refine MF4 ?_
  exact⟨_, .mk 5 0 0 0 ⟨nm,md,pl,rn⟩ (([0,1]:List Int).drop j) [],rfl,Nl ⟨nm,md,pl,rn⟩ [0,1] j,hC3⟩
theorem KN (p:Pc) (rs:List Rf) (cs:List Int) (h:RcA rs cs) (hm3:3<=p.m.toNat % 8):Pure cx 51 [.agg p.cells,FX rs,ints cs] fun r=>∃ c:Cd,r=.ret [c.pv]/\∀ d,PQ (d+1) c 1 18:=
 (aBd p rs cs h hm3).weak fun r hr=>by
  obtain⟨y,c,rfl,h1,h2⟩:=hr
  exact⟨.ret [c.pv],MH4,c,rfl,h2⟩
theorem aKp (p:Pc) (rs:List Rf) (cs:List Int) (h:RcA rs cs):Pure cx 51 [.agg p.cells,FX rs,ints cs] CdQ:=by
 refine pure_of_vc Tryz.func51 rfl rfl rfl ?_
 obtain⟨w,o,n,m,x,y,z⟩:=p
 have TK:(rs.map Rf.cells).length=rs.length:=qB ..
 have nC:=h.pos
 have hk:(w.toNat:Int).tmod ((rs.map Rf.cells).length:Nat)=((w.toNat % rs.length:Nat):Int):=by rw [TK];rfl
 have J2:w.toNat % rs.length<rs.length:=zy _ ME
 generalize w.toNat % rs.length=k at hk J2
 have AO:=G7 J2
 have hkc:k<cs.length:=by have:=h.ok.eq;omega
 have Gu:=aH9 hkc
 have hrf:=h.ok.refs _ (Aa Bu J2)
 have hcd:=h.ok.Ah _ (Aa 0 hkc)
 generalize rs.getD k Bu=rf at AO hrf
 generalize cs.getD k 0=cd at Gu hcd
 obtain⟨nm,md,pl,rn⟩:=rf
 have hw:=w.toNat_lt
 have ho:=o.toNat_lt
 have hn:=n.toNat_lt
 have hm:=m.toNat_lt
 have eo:((o.toNat % 4:Nat):Int)=IntKind.i64.wrap ((o.toNat:Int).tmod 4):=by
  exact MHX
 have en:(n.toNat:Int)=IntKind.i64.wrap (n.toNat:Int):=wrap_i64 MBc ME
 have hv0:=Gs (kV n.toNat) (show 0<cd by omega)
 have hv:=hv0
 have e8:(m.toNat:Int).tmod 8=((m.toNat % 8:Nat):Int):=rfl
 have f8:(o.toNat:Int).tmod 8=((o.toNat % 8:Nat):Int):=rfl
 have DF:=hrf.ok
 refine⟨(w.toNat:Int),wrap_i64 MBc ME,?_⟩
 refine⟨MID,?_⟩
 generalize (w.toNat:Int).tmod ((rs.map Rf.cells).length:Nat)=kk at hk ⊢
 subst hk
 refine AR aPT MK ?_
 refine⟨ML,?_⟩
 refine MIr ?_
 refine MFW ?_
 refine⟨_,MCd,?_⟩
 refine MH6 ?_
 refine⟨_,MFU,?_⟩
 refine⟨MIo,?_⟩
 generalize (n.toNat:Int).tmod cd=v at hv ⊢
 refine⟨ME8,?_⟩
 refine⟨_,MCd,?_⟩
 refine And.intro (fun h3=>?_) (fun h3=>?_)
 ·have h3:md=3:=h3
  refine AR aPU MK ?_
  refine⟨_,MCd,?_⟩
  refine MH6 ?_
  refine⟨_,MFU,?_⟩
  refine⟨MIo,?_⟩
  clear hv
  have hv:=hv0
  generalize (n.toNat:Int).tmod cd=v at hv ⊢
  refine⟨ML,?_⟩
  refine MIr ?_
  refine MFW ?_
  refine⟨MBM,((n.toNat / 8:Nat):Int),wrap_u8' ME,?_⟩
  refine⟨((n.toNat / 8:Nat):Int),wrap_i64 MBc ME,?_⟩
  refine⟨ML,?_⟩
  have hq:=Gs (kV (n.toNat / 8)) (show(0:Int)<4 from ML)
  generalize ((n.toNat / 8:Nat):Int).tmod 4=q at hq ⊢
  have hC1:∀ d,PQ (d+1) (.mk 6 q (1+((o.toNat % 4:Nat):Int)) v ⟨nm,md,pl,rn⟩ [] []) 1 18:=PQ.leaf (by decide) MKG MHz MFQ hrf MBc ME MHD
  refine⟨ML,?_⟩
  by_cases m0:m.toNat % 8=0
  ·refine MEV ?_
   refine AL (.agg [i64 7,i64 0,i64 0,i64 0, .str [],i64 0, .str [],i64 0, .Ad, .Ai 10 [[i64 6,i64 q,i64 (1+((o.toNat % 4:Nat):Int)),i64 v, .str nm,i64 md, .str pl,i64 rn, .Ad, .Ad]]]) rfl MU ?_
   exact⟨_, .mk 7 0 0 0 Bu [] [.mk 6 q (1+((o.toNat % 4:Nat):Int)) v ⟨nm,md,pl,rn⟩ [] []],2,rfl,Ot 7 (oC (F3 6 q (1+((o.toNat % 4:Nat):Int)) v ⟨nm,md,pl,rn⟩)),MBM,(hC1 6).neg.le ML⟩
  refine MB4 ?_
  by_cases m12:m.toNat % 8=1∨m.toNat % 8=2
  rotate_left
  ·refine MAC ?_
   refine MB3 ?_
   refine MGn ?_
   exact⟨_, .mk 6 q (1+((o.toNat % 4:Nat):Int)) v ⟨nm,md,pl,rn⟩ [] [],1,rfl,F3 6 q (1+((o.toNat % 4:Nat):Int)) v ⟨nm,md,pl,rn⟩,MBM,(hC1 7).le ML⟩
  by_cases m1:m.toNat % 8=1
  ·refine MEU ?_
   exact MA4
  ·refine MAC ?_
   refine MES ?_
   exact MA4
 ·refine⟨ML,?_⟩
  by_cases h6:5<o.toNat % 8
  rotate_left
  ·refine MIG ?_
   have hC2:∀ d,PQ (d+1) (.mk (1+((o.toNat % 4:Nat):Int)) v 0 0 ⟨nm,md,pl,rn⟩ [] []) 1 18:=PQ.leaf (by omega) (by omega) MI8 (aIA MDV DF (Jv hv.1 MBc)) hrf ME MEl MHD
   refine⟨ML,?_⟩
   by_cases m0:m.toNat % 8=0
   ·refine MEV ?_
    refine AL (.agg [i64 7,i64 0,i64 0,i64 0, .str [],i64 0, .str [],i64 0, .Ad, .Ai 10 [[i64 (1+((o.toNat % 4:Nat):Int)),i64 v,i64 0,i64 0, .str nm,i64 md, .str pl,i64 rn, .Ad, .Ad]]]) rfl MU ?_
    exact⟨_, .mk 7 0 0 0 Bu [] [.mk (1+((o.toNat % 4:Nat):Int)) v 0 0 ⟨nm,md,pl,rn⟩ [] []],2,rfl,Ot 7 (oC (F3 (1+((o.toNat % 4:Nat):Int)) v 0 0 ⟨nm,md,pl,rn⟩)),MBM,(hC2 6).neg.le ML⟩
   refine MB4 ?_
   by_cases m12:m.toNat % 8=1∨m.toNat % 8=2
   rotate_left
   ·refine MAC ?_
    refine MB3 ?_
    refine MGo ?_
    exact⟨_, .mk (1+((o.toNat % 4:Nat):Int)) v 0 0 ⟨nm,md,pl,rn⟩ [] [],1,rfl,F3 (1+((o.toNat % 4:Nat):Int)) v 0 0 ⟨nm,md,pl,rn⟩,MBM,(hC2 7).le ML⟩
   by_cases m1:m.toNat % 8=1
   ·refine MEU ?_
    exact MA5
   ·refine MAC ?_
    refine MES ?_
    exact MA5
  refine MIu ?_
  refine AR aPV MK ?_
  refine MH6 ?_
  refine⟨ML,?_⟩
  have hj:(n.toNat:Int).tmod 2=((n.toNat % 2:Nat):Int):=rfl
  have hj2:n.toNat % 2<2:=zy _ ML
  generalize n.toNat % 2=j at hj hj2
  generalize (n.toNat:Int).tmod 2=jj at hj ⊢
  subst hj
  have s01:=aMD j hj2
  refine⟨MI4,?_⟩
  refine⟨MDX,?_⟩
  refine⟨MDX,?_⟩
  have hC3:∀ d,PQ (d+1) (.mk 5 0 0 0 ⟨nm,md,pl,rn⟩ (([0,1]:List Int).drop j) []) 1 18:=PQ.leaf MKG MHz MEl (aIB DF s01.1) hrf MBM ML s01.2
  refine⟨ML,?_⟩
  by_cases m0:m.toNat % 8=0
  ·refine MEV ?_
   refine AL (.agg [i64 7,i64 0,i64 0,i64 0, .str [],i64 0, .str [],i64 0, .Ad, .Ai 10 [[i64 5,i64 0,i64 0,i64 0, .str nm,i64 md, .str pl,i64 rn, .Dh ((([0,1]:List Int).map i64).drop j), .Ad]]]) rfl MU ?_
   exact⟨_, .mk 7 0 0 0 Bu [] [.mk 5 0 0 0 ⟨nm,md,pl,rn⟩ (([0,1]:List Int).drop j) []],2,rfl,Ot 7 (oC (Nl ⟨nm,md,pl,rn⟩ [0,1] j)),MBM,(hC3 6).neg.le ML⟩
  refine MB4 ?_
  by_cases m12:m.toNat % 8=1∨m.toNat % 8=2
  rotate_left
  ·refine MAC ?_
   refine MB3 ?_
   refine MF4 ?_
   exact⟨_, .mk 5 0 0 0 ⟨nm,md,pl,rn⟩ (([0,1]:List Int).drop j) [],1,rfl,Nl ⟨nm,md,pl,rn⟩ [0,1] j,MBM,(hC3 7).le ML⟩
  by_cases m1:m.toNat % 8=1
  ·refine MEU ?_
   exact MA7
  ·refine MAC ?_
   refine MES ?_
   exact MA7
theorem aNb (p:Pc) (rs:List Rf) (cs:List Int) (h:RcA rs cs):Pure cx 51 [.agg p.cells,FX rs,ints cs] fun r=>∃ (c:Cd) (n:Nat),r=.ret [c.pv]/\n<=3/\PQ 8 c n 43:=
 (aKp p rs cs h).weak fun r hr=>by
  obtain⟨y,c,n,rfl,h1,h2⟩:=hr
  exact⟨.ret [c.pv],MH4,c,n,rfl,h2⟩
theorem aBb {C : Cx} {rd : Bool} {n0 N : Nat} {all : List Oper} {σ : Sg} {ds : List AD} {H : Hp} {K : Sg -> List AD -> Hp -> Prop} {X : List AP -> Sg -> List AD -> Hp -> Prop} {α : Type} (sl : α -> List (Nat × AV)) (hp : α -> Hp) (pr : α -> Prop) (ot : OT)
    (h : (C.P.follows .mixedOrders && FN N all (Cr all []) && JB all (Cr all []) ot [] [] []) = true)
    (hv : vD C rd all σ (fun σ' CS H' => ∃ x, pr x /\ O9 C n0 N σ' CS H' (Bh (fun _ => .junk) (sl x)) ds (hp x)) X ot [] ds H) (hk : ∀ x, pr x -> K (Bh (fun _ => .junk) (sl x)) ds (hp x)) :
    ∃ ot, (C.P.follows .mixedOrders && FN N all (Cr all []) && JB all (Cr all []) ot [] [] []) = true /\
    ((vD C rd all σ K X ot [] ds H) ∨
     ∃ (α : Type) (sl : α -> List (Nat × AV)) (hp : α -> Hp) (pr : α -> Prop),
      vD C rd all σ (fun σ' CS H' => ∃ x, pr x /\ O9 C n0 N σ' CS H' (Bh (fun _ => .junk) (sl x)) ds (hp x)) X ot [] ds H /\
      ∀ x, pr x -> K (Bh (fun _ => .junk) (sl x)) ds (hp x)) := ⟨_, h, .inr ⟨α, sl, hp, pr, hv, hk⟩⟩
abbrev aRZ:OT:=(.pure 0 (.pure 1 (.pure 2 (.pure 3 (.pure 4 (.pure 5 (.pure 6 (.pure 8 (.pure 9 (.pure 10 (.pure 11 (.pure 12 (.pure 13 (.pure 14 (.pure 15 (.pure 16 (.pure 17 (.pure 18
 (.A8 7 [15,14,9] (.pure 19 (.A8 20 [15,14,9,4,1] (.A8 21 [] .fin .nil) .nil))
  (.A8 20 [15,14,9,4,1] (.A8 7 [15,14,9] (.pure 19 (.A8 21 [] .fin .nil)) .nil) .nil))))))))))))))))))))
def ksO (l:List Cs):Ag:=⟨aCA,false, .GN (l.map Cs.cells)⟩
def pc0:Pc:=⟨0,0,0,0,0,0,0⟩
theorem aNZ {l:List Pc} {k:Nat} (h:k<l.length):(l.map Pc.cells)[k]?=some (l.getD k pc0).cells:=Ct pc0 h
structure GrS (k:Nat) (g:Int):Prop where
 ok:(k=0/\g=0)∨((k=2∨k=3)/\1<=g/\g<=12)
theorem nz {v:Int} (h:-999<=v/\v<=999):NuS [v]:=by
 have h1:Im v=true:=by rw [Im,qE MBc,qE ME];rfl
 refine⟨?_,?_⟩
 ·show(decide (1<=1) && decide (1<=8) && (Im v && true))=true
  rw [h1];rfl
 ·show lw (dN v++[])<=6
  rw [qU,dN]
  have h1:=VZ v
  have h2:=VZ (-v)
  split <;> simp only [Dg,Z6,qR,qy] <;> omega
def CaQ (r:PEnd):Prop:=∃ (y:PV) (l:List Cs),r=.ret [y]/\Be y (OI l)/\RuS l
theorem KM (out:List Cs) (l:List Int):Be (.Ai 11 (out.map Cs.cells++[WY++[.Dh (l.map i64)]])) (OI (out++[⟨Fy,l⟩])):=by
 simp only [OI,Be,qX,kI,jP]
 refine⟨_,rfl,?_⟩
 induction out with
 | nil=>
  simp only [jP,kg,BZ]
  exact⟨_,_,rfl,aNa l,rfl⟩
 | cons c out ih=>
  simp only [kI,kD,BZ]
  exact⟨_,_,rfl,BL.refl _,ih⟩
structure aKo (out:List Cs) (i:Nat):Prop where
 cs:∀ c∈out,CsS c
 len:out.length<=i
theorem aKo.snoc {out:List Cs} {i:Nat} {c:Cs} (h:aKo out i) (hc:CsS c):aKo (out++[c]) (i+1):=by
 refine⟨fun x hx=>?_,by rw [qD];have:=h.len;simp only [qR,qy];omega⟩
 rcases qa.1 hx with hx | hx
 ·exact h.cs x hx
 ·rw [qP.1 hx];exact hc
theorem aH8 (p:Pt) (rs:List Rf) (cs:List Int) (h:RcS rs cs) (k:Nat) (g:Int) (hg:GrS k g) (hp:p.cases.length<=9223372036854775807):Pure cx 30 [.agg p.cells,FX rs,ints cs,i64 (k:Int),i64 g] CaQ:=by
 refine pure_of_vc Tryz.func30 rfl rfl rfl ?_
 obtain⟨kind,card,SC,Eu,pl,ps,x,y,z⟩:=p
 have hps:(ps.map Pc.cells).length=ps.length:=qB ..
 have hrs:(rs.map Rf.cells).length=rs.length:=qB ..
 have hr2:=h.len
 simp only [] at hp
 refine⟨Nat × List Cs,fun x'=>[(1, .p (FX rs)),(2, .p (ints cs)),(3, .p (i64 (k:Int))),(4, .p (i64 g)),(5, .ptr 0 0 0),(11, .sl 1 11 0 x'.2.length),(12, .p (i64 x'.1))],fun x'=>⟨2,[(1,ksO x'.2),(0,ptO ⟨kind,card,SC,Eu,pl,ps,x,y,z⟩)]⟩,fun x'=>x'.1<=3/\aKo x'.2 x'.1,fun x'=>3 - x'.1,?_,?_⟩
 ·exact⟨(0,[]),⟨ML,⟨fun c hc=>(by cases hc),qN _⟩⟩,AA [] [] [(1,11)] rfl (sk) (sk) rfl⟩
 rintro⟨i,out⟩ ⟨k1,k2⟩
 simp only [] at k1 k2
 by_cases ha:i<ps.length/\i<3/\0<rs.length
 rotate_left
 ·by_cases hi:i<ps.length
  rotate_left
  ·refine And.intro (fun h=>absurd (show(i:Int)<((ps.map Pc.cells).length:Nat) from h) (by rw [hps];omega)) (fun _=>?_)
   exact MAu
  refine MHv ?_
  by_cases hi3:i<3
  rotate_left
  ·refine And.intro (fun h=>absurd (show(i:Int)<3 from h) ME) (fun _=>?_)
   exact MAu
  refine And.intro (fun _=>?_) (fun h=>absurd (show(i:Int)<3 by omega) h)
  refine And.intro (fun h=>absurd (show(0:Int)<((rs.map Rf.cells).length:Nat) from h) (by rw [hrs];omega)) (fun _=>?_)
  exact MAu
 obtain⟨hi,hi3,hr0⟩:=ha
 refine MHv ?_
 refine And.intro (fun _=>?_) (fun h=>absurd (show(i:Int)<3 by omega) h)
 refine And.intro (fun _=>?_) (fun h=>absurd (show(0:Int)<((rs.map Rf.cells).length:Nat) by rw [hrs];omega) h)
 have AO:=aNZ hi
 generalize ps.getD i pc0=P at AO
 have hcd:=aNb P rs cs ⟨h,hr0⟩
 obtain⟨w,o,n,m,a,b,c⟩:=P
 have haL:=a.toNat_lt
 have hv:=Gs (kV a.toNat) (show(0:Int)<201 from ML)
 refine aBb (fun c:Cd=>[(1, .p (FX rs)),(2, .p (ints cs)),(3, .p (i64 (k:Int))),(4, .p (i64 g)),(5, .ptr 0 0 0),(11, .sl 1 11 0 out.length),(12, .p (i64 (i:Int))),(13, .ptr 2 0 0)]) (fun c=>⟨3,[(2,⟨aCA,false, .bx ((c.cells++[ints [(a.toNat:Int).tmod 201 - 100]]).map .p)⟩),(1,ksO out),(0,ptO ⟨kind,card,SC,Eu,pl,ps,x,y,z⟩)]⟩) (fun c=>∃ n,n<=3/\PQ 8 c n 43) aRZ MK ?_ ?_
 ·refine⟨_,MFD,?_⟩
  refine⟨_,MFD,?_⟩
  refine⟨_,⟨by show(0:Int)<=0/\(0:Int)<3;decide,[u8 a],rfl,rfl⟩,?_⟩
  refine⟨(a.toNat:Int),wrap_i64 MBc ME,?_⟩
  refine⟨ML,?_⟩
  refine⟨(a.toNat:Int).tmod 201 - 100,wrap_i64 MBc ME,?_⟩
  have ea:(a.toNat:Int)=IntKind.i64.wrap (a.toNat:Int):=wrap_i64 MBc ME
  refine And.intro ?_ ?_
  ·refine hcd.at fun r hr=>?_
   obtain⟨⟨ao,an,ar,av,af,G8,aa⟩,nn,rfl,bG,VE⟩:=hr
   refine⟨MHp,?_⟩
   refine⟨MG2,?_⟩
   exact MGS
  ·refine⟨MG2,?_⟩
   refine hcd.at fun r hr=>?_
   obtain⟨⟨ao,an,ar,av,af,G8,aa⟩,nn,rfl,bG,VE⟩:=hr
   refine⟨MHp,?_⟩
   exact MGS
 ·rintro⟨ao,an,ar,av,af,G8,aa⟩ ⟨nn,bG,VE⟩
  by_cases hg0:0<g
  ·refine And.intro (fun _=>?_) (fun h=>absurd hg0 h)
   obtain⟨hk,hg1,hg2⟩:(k=2∨k=3)/\1<=g/\g<=12:=by
    rcases hg.ok with h | h
    ·omega
    ·exact h
   refine⟨_,MFD,?_⟩
   refine(Qu a b c k g hk ⟨by omega,hg2⟩).at fun r hr=>?_
   obtain⟨l,rfl,hl⟩:=hr
   refine⟨MO,[(Cs.mk (Cd.mk ao an ar av af G8 aa) l).cells],rfl,?_⟩
   refine⟨MKB,out.map Cs.cells,AB MBV,MIC,(out++[Cs.mk (Cd.mk ao an ar av af G8 aa) l]).map Cs.cells,by simp,?_⟩
   refine MDP ?_
   exact⟨(i+1,out++[Cs.mk (Cd.mk ao an ar av af G8 aa) l]),⟨by show i+1<=3;omega,k2.snoc ⟨⟨nn,bG,VE⟩,(hl.nu hk)⟩⟩,AA [] [(1,4)] [] rfl MFx (sk) rfl,by show 3 - (i+1)<3 - i;omega⟩
  ·refine And.intro (fun h=>absurd h hg0) (fun _=>?_)
   refine⟨MO,[(Cs.mk (Cd.mk ao an ar av af G8 aa) [(a.toNat:Int).tmod 201 - 100]).cells],rfl,?_⟩
   refine⟨MKB,out.map Cs.cells,AB MBV,MIC,(out++[Cs.mk (Cd.mk ao an ar av af G8 aa) [(a.toNat:Int).tmod 201 - 100]]).map Cs.cells,by simp,?_⟩
   refine MDP ?_
   exact⟨(i+1,out++[Cs.mk (Cd.mk ao an ar av af G8 aa) [(a.toNat:Int).tmod 201 - 100]]),⟨by show i+1<=3;omega,k2.snoc ⟨⟨nn,bG,VE⟩,(nz MBc)⟩⟩,AA [] [(1,4)] [] rfl MFx (sk) rfl,by show 3 - (i+1)<3 - i;omega⟩
theorem UK (p:Pt) (rs:List Rf) (cs:List Int) (h:RcS rs cs) (k:Nat) (g:Int) (hg:GrS k g) (hp:p.cases.length<=9223372036854775807):Pure cx 30 [.agg p.cells,FX rs,ints cs,i64 (k:Int),i64 g] fun r=>∃ l,r=.ret [OI l]/\RuS l:=
 (aH8 p rs cs h k g hg hp).weak fun r hr=>by
  obtain⟨y,l,rfl,h1,h2⟩:=hr
  exact⟨.ret [OI l],MH4,l,rfl,h2⟩
structure Dp where
 BS:UInt8
 Ae:UInt8
 nodes:List Pt
 choice:Pt
 aC3:List Pt
 aKn:Bool
abbrev Dp.cells (d:Dp):List PV:=[u8 d.BS,u8 d.Ae, .Ai 9 (d.nodes.map Pt.cells),u8 d.choice.kind,u8 d.choice.card,u8 d.choice.SC,u8 d.choice.Eu, .bool d.choice.pl, .Ai 7 (d.choice.cases.map Pc.cells),u8 d.choice.x,u8 d.choice.y,u8 d.choice.z, .Ai 9 (d.aC3.map Pt.cells), .bool d.aKn]
structure Dp.ok (d:Dp):Prop where
 nodes:d.nodes.length<=9223372036854775807
 aC3:d.aC3.length<=9223372036854775807
 aRV:∀ p∈d.nodes,p.cases.length<=9223372036854775807
 aRW:∀ p∈d.aC3,p.cases.length<=9223372036854775807
def pt0:Pt:=⟨0,0,0,0,false,[],0,0,0⟩
theorem aBZ {l:List Pt} {k:Nat} (h:k<l.length):(l.map Pt.cells)[k]?=some (l.getD k pt0).cells:=Ct pt0 h
abbrev TKn:TypeId:=98
abbrev aRX:TypeId:=39
def dpO (d:Dp):Ag:=⟨28,false, .bx (d.cells.map .p)⟩
def kwO (l:List Kn):Ag:=⟨TKn,false, .GN (l.map Kn.cells)⟩
def dyO (Y:List (List PV)):Ag:=⟨aF2,false, .GN Y⟩
def rF (v:AV):Ag:=⟨aRX,false, .bx [v]⟩
theorem Qs (l:List Int):YL (iO l):=⟨rfl,rfl,by
 show Jr ((l.map i64).map .p)=true
 rw [KY]
 induction l with
 | nil=>rfl
 | cons a l ih=>simp only [kI,Lf,ih,xX];rfl⟩
theorem Nk (l:List Rf):YL (Z5 l):=⟨rfl,rfl,by
 show Jr ((l.map Rf.cells).flatten.map .p)=true
 rw [KY]
 induction l with
 | nil=>rfl
 | cons a l ih=>
  rw [kI,xI]
  simp only [Rf.cells,kD,kg,Lf,ih,xX];rfl⟩
theorem Gq:∀ {a b:List (List PV)} {c d:List (List PV)},BZ a c->BZ b d->BZ (a++b) (c++d)
 | [],b,c,d,h,k=>by
  simp only [BZ] at h
  subst h;exact k
 | x::a,b,c,d,h,k=>by
  simp only [BZ,kD] at h ⊢
  obtain⟨z,zs,rfl,h1,h2⟩:=h
  exact⟨z,zs++d,rfl,h1,Gq h2 k⟩
theorem iY {a b:List PV} (h:BL a b):BZ [a] [b]:=by
 simp only [BZ]
 exact⟨_,_,rfl,h,rfl⟩
def aBX:Bool->List De->Prop
 | false,ds=>∀ d∈ds,d.kind<=3
 | true,ds=>∃ A B,ds=A++B/\(∀ d∈A,d.kind<=3)/\∀ d∈B,4<=d.kind
theorem aBX.up {b:Bool} {ds:List De} (h:aBX b ds):aBX true ds:=match b,h with
 | false,h=>⟨ds,[],(qU _).symm,h,fun _ hd=>by cases hd⟩
 | true,h=>h
structure iZ (b:Bool) (Y:List (List PV)) (n k:Nat):Prop where
 ds:∃ ds:List De,BZ Y (ds.map De.cells)/\PrS ds k/\ds.length=n/\aBX b ds
theorem iZ.len {b:Bool} {Y:List (List PV)} {n k:Nat} (h:iZ b Y n k):Y.length=n:=by
 obtain⟨ds,h1,_,h3,_⟩:=h.ds
 have:=h1.len
 rw [qB] at this
 omega
theorem iZ.snoc {Y:List (List PV)} {n k j:Nat} {c:List PV} {d:De} (h:iZ false Y n k) (hc:BL c d.cells) (hd:DeS d j) (hk:d.kind<=3):iZ false (Y++[c]) (n+1) (k+j):=by
 obtain⟨ds,h1,h2,h3,h4⟩:=h.ds
 refine⟨ds++[d],?_,h2.snoc hd,by rw [qD,h3];rfl,fun x hx=>?_⟩
 ·rw [qX]
  exact Gq h1 (iY hc)
 ·rcases qa.1 hx with hx | hx
  ·exact h4 x hx
  ·rw [qP.1 hx];exact hk
theorem iZ.aC4 {b:Bool} {Y:List (List PV)} {n k j:Nat} {c:List PV} {d:De} (h:iZ b Y n k) (hc:BL c d.cells) (hd:DeS d j) (hk:4<=d.kind):iZ true (Y++[c]) (n+1) (k+j):=by
 obtain⟨ds,h1,h2,h3,h4⟩:=h.ds
 obtain⟨A,B,rfl,hA,hB⟩:=h4.up
 refine⟨(A++B)++[d],?_,h2.snoc hd,by rw [qD,h3];rfl,A,B++[d],qO ..,hA,fun x hx=>?_⟩
 ·rw [qX]
  exact Gq h1 (iY hc)
 ·rcases qa.1 hx with hx | hx
  ·exact hB x hx
  ·rw [qP.1 hx];exact hk
theorem iZ.up {b:Bool} {Y:List (List PV)} {n k:Nat} (h:iZ b Y n k):iZ true Y n k:=by
 obtain⟨ds,h1,h2,h3,h4⟩:=h.ds
 exact⟨ds,h1,h2,h3,h4.up⟩
theorem iZ.le {b:Bool} {Y:List (List PV)} {n k k':Nat} (h:iZ b Y n k) (hk:k<=k'):iZ b Y n k':=by
 obtain⟨ds,h1,h2,h3,h4⟩:=h.ds
 exact⟨ds,h1,h2.le hk,h3,h4⟩
theorem ny {k n:Int} {nm pl:List UInt8} {a b a' b':PV} (h1:Be a a') (h2:Be b b'):BL [i64 k,i64 n, .str nm, .str pl,a,b] [i64 k,i64 n, .str nm, .str pl,a',b']:=by
 simp only [BL]
 exact⟨_,_,rfl,Be.refl _,_,_,rfl,Be.refl _,_,_,rfl,Be.refl _,_,_,rfl,Be.refl _,_,_,rfl,h1,_,_,rfl,h2,rfl⟩
theorem VY (s:Nat):Be .Ad (.Ai s []):=by
 simp only [Be]
 exact .inr (.inr ⟨s,rfl⟩)
theorem aNX {g s:Int} (hg:0<=g/\g<=12) (hs:0<=s/\s<=2):iZ false [[i64 1,i64 g, .str [], .str [], .Ad, .Ad],[i64 2,i64 s, .str [112], .str [], .Ad, .Ad]] 2 22:=by
 have h0:iZ false [] 0 0:=⟨[],by simp only [BZ,jP],PrS.nil,rfl,fun _ hd=>by cases hd⟩
 have h1:=h0.snoc (d:=⟨1,g,[],[],[],[]⟩) (ny (VY 4) (VY 11)) (aH6 (Jv hg.1 ME)) (by show(1:Int)<=3;decide)
 exact h1.snoc (d:=⟨2,s,[112],[],[],[]⟩) (ny (VY 4) (VY 11)) (aH7 (Jv hs.1 ME)) (by show(2:Int)<=3;decide)
abbrev aRY:OT:=(.pure 0 (.pure 1 (.pure 2 (.pure 3 (.pure 4 (.pure 5 (.pure 6 (.pure 7 (.pure 8 (.pure 9 (.pure 10 (.pure 11 .fin))))))))))))
abbrev aMA:OT:=(.pure 0 (.pure 1 (.pure 2 (.pure 3 (.pure 4 (.pure 5 (.pure 6 (.pure 7 (.pure 8 (.pure 9 (.pure 10 (.pure 11 (.pure 12 (.pure 13 (.A8 14 [1] (.pure 15 (.A8 16 [1] (.A8 17 [] (.pure 18 (.A8 19 [] .fin .nil)) .nil) .nil)) .nil)))))))))))))))
abbrev aMB:OT:=(.pure 0 (.pure 1 (.pure 2 (.pure 3 (.pure 4 (.pure 5 (.pure 6 (.pure 7 (.pure 8 (.A8 9 [] (.A8 10 [] (.pure 11 .fin) .nil) .nil))))))))))
abbrev aMC:OT:=(.pure 0 (.pure 1 (.pure 2 (.pure 3 (.pure 4 (.pure 5 (.pure 6 (.pure 7 (.pure 8 (.pure 9 (.A8 10 [1] (.pure 11 (.A8 12 [1] (.A8 13 [] (.pure 14 (.A8 15 [] .fin .nil)) .nil) .nil)) .nil)))))))))))
def PqQ (r:PEnd):Prop:=∃ (Y:List (List PV)) (n k:Nat),r=.ret [.agg [.Ai 6 Y]]/\iZ true Y n k/\n<=20/\k<=1300/\2<=n
structure LkS (l:List Kn) (i:Nat):Prop where
 ok:∀ k∈l,KnS k
 len:l.length=i
theorem LkS.snoc {l:List Kn} {i:Nat} {k:Kn} (h:LkS l i) (hk:KnS k):LkS (l++[k]) (i+1):=by
 refine⟨fun x hx=>?_,by rw [qD,h.len];rfl⟩
 rcases qa.1 hx with hx | hx
 ·exact h.ok x hx
 ·rw [qP.1 hx];exact hk
def nmI (i:Nat):List UInt8:=(([97,98,99,100]:List UInt8).drop i).take (i+1 - i)
theorem aNY:∀ i,i<4->Bb (nmI i)=true/\(nmI i).length=1:=ML
theorem ic {C:Cx} {g:FuncId} {pargs:List PV} {args:List AV} {H:Hp} {Q0 Q:AE->Hp->Prop} (h:Holds C g (pargs.map .p) ⟨0,[]⟩ Q0) (fs:List Nat) (hm:CV H.l fs=true) (ha:EJ (GH (marks H.l fs) 5) args pargs)
  (hQ:∀ e0 PN,Q0 e0 PN->(Rm PN.l && aAl e0)=true/\lW PN.l/\∃ e H2,aD2 (CW 0 [] 0 H.next) e0=e/\(⟨H.next+PN.next,lX (CW 0 [] 0 H.next) PN.l++H.l⟩:Hp)=H2/\Q e H2):Holds C g args H Q:=
 h.aOU fs hm ha fun e0 H0 hq=>by
  obtain⟨h1,h2,e,H2,rfl,rfl,h3⟩:=hQ e0 H0 hq
  exact⟨h1,h2,h3⟩
theorem aBa (d:Dp) (hd:d.ok):Pure cx 9 [.agg d.cells] PqQ:=by
 refine pure_of_vc Tryz.func9 rfl rfl rfl ?_
 obtain⟨gr,pt,ns,ch,gs,cz⟩:=d
 obtain⟨hd1,hd2,hd3,hd4⟩:=hd
 simp only [] at hd1 hd2 hd3 hd4
 have hns:(ns.map Pt.cells).length=ns.length:=qB ..
 have hgs:(gs.map Pt.cells).length=gs.length:=qB ..
 have hgr:=gr.toNat_lt
 have hpt:=pt.toNat_lt
 refine AR aRY MK ?_
 refine⟨ML,?_⟩
 refine⟨((gr.toNat % 12:Nat):Int),by show _=IntKind.i64.wrap ((gr.toNat:Int).tmod 12);rw [show(gr.toNat:Int).tmod 12=((gr.toNat % 12:Nat):Int) from rfl];exact wrap_i64 MBc ME,?_⟩
 obtain⟨g,hge⟩:∃ g:Int,g=1+((gr.toNat % 12:Nat):Int):=MX
 refine⟨g,by rw [hge];exact wrap_i64 MBc ME,?_⟩
 refine⟨ML,?_⟩
 refine⟨((pt.toNat % 2:Nat):Int),by show _=IntKind.i64.wrap ((pt.toNat:Int).tmod 2);rw [show(pt.toNat:Int).tmod 2=((pt.toNat % 2:Nat):Int) from rfl];exact wrap_i64 MBc ME,?_⟩
 obtain⟨sz,hse⟩:∃ s:Int,s=1+((pt.toNat % 2:Nat):Int):=MX
 refine⟨sz,by rw [hse];exact wrap_i64 MBc ME,?_⟩
 have hg:1<=g/\g<=12:=by omega
 have hs:sz=1∨sz=2:=by omega
 clear hge hse
 have Lv:=aNX (g:=g) (s:=sz) MBc ME
 refine⟨Nat × List (List PV) × List Kn,fun x=>[(1, .ptr 0 0 0),(2, .ptr 1 0 0),(3, .p (i64 g)),(4, .p (i64 sz)),(5, .ptr 3 0 0),(6, .sl 4 3 0 x.1),(7, .p (i64 x.1))],fun x=>⟨5,[(4,kwO x.2.2),(3,rF (.sl 2 6 0 (2+x.1))),(2,dyO x.2.1),(1,rF (.p .Ad)),(0,dpO ⟨gr,pt,ns,ch,gs,cz⟩)]⟩,fun x=>x.1<=4/\iZ false x.2.1 (2+x.1) (22+201 * x.1)/\LkS x.2.2 x.1,fun x=>4 - x.1,?_,?_⟩
 ·exact⟨(0,_,[]),⟨by show 0<=4;decide,Lv,⟨fun k hk=>(by cases hk),rfl⟩⟩,AA [] [] [(4,3)] rfl (sk) (sk) rfl⟩
 rintro⟨i,Y,l⟩ ⟨k1,k2,k3⟩
 simp only [] at k1 k2 k3
 have hY:=k2.len
 have hL:=k3.len
 by_cases ha:i<ns.length/\i<4
 rotate_left
 ·cases cz
  ·by_cases hi:i<ns.length
   ·refine MDp ?_
    refine And.intro (fun h=>absurd (show(i:Int)<4 from h) ME) (fun _=>?_)
    exact MEI
   ·refine MG9 ?_
    exact MEI
  ·by_cases hi:i<ns.length
   ·refine MDp ?_
    refine And.intro (fun h=>absurd (show(i:Int)<4 from h) ME) (fun _=>?_)
    exact MBe
   ·refine MG9 ?_
    exact MBe
 obtain⟨hi,hi4⟩:=ha
 have AO:=aBZ hi
 have rA:=hd3 _ (Aa pt0 hi)
 generalize ns.getD i pt0=p at AO rA
 obtain⟨kind,card,SC,Eu,pl,ps,x,y,z⟩:=p
 have hcd:=card.toNat_lt
 have F4:=aNY i hi4
 refine MDp ?_
 refine And.intro (fun _=>?_) (fun h=>absurd (show(i:Int)<4 by omega) h)
 cases pl
 ·refine⟨_,⟨by omega,(Pt.mk kind card SC Eu false ps x y z).cells,AO,rfl⟩,?_⟩
  refine⟨ML,?_⟩
  refine⟨((card.toNat % 2:Nat):Int),MEB,?_⟩
  obtain⟨kk,V6⟩:∃ kk,kk=2+card.toNat % 2:=MX
  refine⟨((kk:Nat):Int),by rw [V6,qZ];exact wrap_i64 MBc ME,?_⟩
  refine ic (pargs:=[.agg ((Pt.mk kind card SC Eu false ps x y z)).cells, .Ai 3 ((l).map Kn.cells), .bool false,i64 sz]) (Qt (Pt.mk kind card SC Eu false ps x y z) (l) (k3).ok (by have:=(k3).len;omega) false sz hs).holds [4] rfl MAW fun e0 H0 hq=>?_
  obtain⟨rs,cs,rfl,rfl,XD⟩:=hq
  refine⟨rfl,⟨Nk _,Qs _,trivial⟩,_,⟨8,(6,Z5 rs)::(7,iO cs)::((5,ptO (Pt.mk kind card SC Eu false ps x y z))::[(4,kwO l),(3,rF (.sl 2 6 0 (2+i))),(2,dyO Y),(1,rF (.p .Ad)),(0,dpO ⟨gr,pt,ns,ch,gs,cz⟩)])⟩,rfl,rfl,?_⟩
  refine AR aMA MK ?_
  refine MDP ?_
  refine⟨MCt,?_⟩
  refine(UK _ rs cs XD kk g ⟨.inr ⟨by omega,hg⟩⟩ rA).use [6,7] rfl MDs fun r hr=>?_
  obtain⟨L,rfl,hLs⟩:=hr
  refine⟨MHh,?_⟩
  refine⟨MHh,?_⟩
  refine⟨MO,_,rfl, .inl ⟨[],[[i64 3,i64 ((kk:Nat):Int), .str (nmI i), .str [],FX rs,(OI L)]],rfl,MDu,?_⟩⟩
  refine⟨by show 0+(2+i)<=Y.length;omega,Y,AB ME,MKY,Y++[[i64 3,i64 ((kk:Nat):Int), .str (nmI i), .str [],FX rs,(OI L)]],rfl,?_⟩
  refine AR aMB MK ?_
  refine MDP ?_
  refine⟨MCt,?_⟩
  refine⟨MO,[((Kn.mk (nmI i) ((kk:Nat):Int) false)).cells],rfl,?_⟩
  refine⟨MJR,l.map Kn.cells,AB MAI,MKs,(l++[(Kn.mk (nmI i) ((kk:Nat):Int) false)]).map Kn.cells,by simp,?_⟩
  refine MDP ?_
  exact⟨(i+1,Y++[[i64 3,i64 ((kk:Nat):Int), .str (nmI i), .str [],FX rs,OI L]],l++[Kn.mk (nmI i) ((kk:Nat):Int) false]),⟨by show i+1<=4;omega,(k2.snoc (d:=⟨3,((kk:Nat):Int),nmI i,[],rs,L⟩) (BL.refl _) (aC6 (n:=((kk:Nat):Int)) (Jv MBc ME) F4.1 F4.2 (.inl rfl) XD.refs XD.len hLs) (by show(3:Int)<=3;decide)).le MKH,k3.snoc ⟨F4.1,F4.2,by show((kk:Nat):Int)=2∨((kk:Nat):Int)=3;omega⟩⟩,AA [] [(2,9),(4,11)] [] rfl (sk) (sk) rfl,by show 4 - (i+1)<4 - i;omega⟩
 ·refine⟨_,⟨by omega,(Pt.mk kind card SC Eu true ps x y z).cells,AO,rfl⟩,?_⟩
  refine⟨ML,?_⟩
  refine⟨((card.toNat % 2:Nat):Int),MEB,?_⟩
  refine⟨2+((card.toNat % 2:Nat):Int),wrap_i64 MBc ME,?_⟩
  refine ic (pargs:=[.agg ((Pt.mk kind card SC Eu true ps x y z)).cells, .Ai 3 ((l).map Kn.cells), .bool true,i64 sz]) (Qt (Pt.mk kind card SC Eu true ps x y z) (l) (k3).ok (by have:=(k3).len;omega) true sz hs).holds [4] rfl MAW fun e0 H0 hq=>?_
  obtain⟨rs,cs,rfl,rfl,XD⟩:=hq
  refine⟨rfl,⟨Nk _,Qs _,trivial⟩,_,⟨8,(6,Z5 rs)::(7,iO cs)::((5,ptO (Pt.mk kind card SC Eu true ps x y z))::[(4,kwO l),(3,rF (.sl 2 6 0 (2+i))),(2,dyO Y),(1,rF (.p .Ad)),(0,dpO ⟨gr,pt,ns,ch,gs,cz⟩)])⟩,rfl,rfl,?_⟩
  refine AR aMA MK ?_
  refine MDP ?_
  refine⟨MCt,?_⟩
  refine(UK _ rs cs XD 2 g ⟨.inr ⟨by omega,hg⟩⟩ rA).use [6,7] rfl MDs fun r hr=>?_
  obtain⟨L,rfl,hLs⟩:=hr
  refine⟨MHh,?_⟩
  refine⟨MHh,?_⟩
  refine⟨MO,_,rfl, .inl ⟨[],[[i64 3,i64 ((2:Nat):Int), .str (nmI i), .str [112],FX rs,(OI L)]],rfl,MDu,?_⟩⟩
  refine⟨by show 0+(2+i)<=Y.length;omega,Y,AB ME,MKY,Y++[[i64 3,i64 ((2:Nat):Int), .str (nmI i), .str [112],FX rs,(OI L)]],rfl,?_⟩
  refine AR aMB MK ?_
  refine MDP ?_
  refine⟨MCt,?_⟩
  refine⟨MO,[((Kn.mk (nmI i) ((2:Nat):Int) true)).cells],rfl,?_⟩
  refine⟨MJR,l.map Kn.cells,AB MAI,MKs,(l++[(Kn.mk (nmI i) ((2:Nat):Int) true)]).map Kn.cells,by simp,?_⟩
  refine MDP ?_
  exact⟨(i+1,Y++[[i64 3,i64 ((2:Nat):Int), .str (nmI i), .str [112],FX rs,OI L]],l++[Kn.mk (nmI i) ((2:Nat):Int) true]),⟨by show i+1<=4;omega,(k2.snoc (d:=⟨3,((2:Nat):Int),nmI i,[112],rs,L⟩) (BL.refl _) (aC6 (n:=((2:Nat):Int)) (Jv MBc ME) F4.1 F4.2 (.inr rfl) XD.refs XD.len hLs) (by show(3:Int)<=3;decide)).le MKH,k3.snoc ⟨F4.1,F4.2,by show((2:Nat):Int)=2∨((2:Nat):Int)=3;omega⟩⟩,AA [] [(2,9),(4,11)] [] rfl (sk) (sk) rfl,by show 4 - (i+1)<4 - i;omega⟩
theorem N8 (d:Dp) (hd:d.ok):Pure cx 9 [.agg d.cells] fun r=>∃ ds,r=.ret [JV ds]/\DrP ds/\2<=ds.length/\ds.length<=20/\aBX true ds:=
 (aBa d hd).weak fun r hr=>by
  obtain⟨Y,n,k,rfl,h1,h2,h3,h4⟩:=hr
  obtain⟨ds,g1,g2,g3,g4⟩:=h1.ds
  refine⟨.ret [JV ds],⟨_,rfl,_,_,rfl,?_,rfl⟩,ds,rfl,g2.fin ME h3,by omega,by omega,g4⟩
  show Be (.agg [.Ai 6 Y]) (.agg [.Ai 6 (ds.map De.cells)])
  simp only [Be,BL]
  exact⟨_,rfl,_,_,rfl,⟨_,rfl,g1⟩,rfl⟩
set_option maxHeartbeats 4000000
theorem Rc {ds:List De} (h:CK ds=true):Bj ds=0∨Bj ds=390:=by
 rw [Bj,qM h]
 split
 ·exact .inl rfl
 ·exact .inr rfl
theorem WX:∀ (f:Nat) (ds:List De),KS f ds=Z4∨∃ k,2<k/\k<=ds.length/\KS f ds=ds.take k/\Bj (ds.take k)=0/\((ds.take k).getD (k - 1) Aj).kind=3
 | 0,ds=>.inl rfl
 | f+1,ds=>by
  rw [KS]
  split
  ·rename_i h2
   split
   ·rename_i h
    refine .inr ⟨ds.length,h2,qN _,(xy ..).symm,?_,?_⟩
    ·rw [xy];exact h.2
    ·rw [xy];exact h.1
   ·rcases WX f (ds.take (ds.length - 1)) with h | ⟨k,h3,hk,h,h4,h5⟩
    ·exact .inl h
    ·rw [qj] at hk
     have e:(ds.take (ds.length - 1)).take k=ds.take k:=by rw [jT,xG (by omega)]
     rw [e] at h h4 h5
     exact .inr ⟨k,h3,by omega,h,h4,h5⟩
  ·exact .inl rfl
theorem aBW {ds:List De} (h:aBX true ds) {k:Nat} (hk:2<k) (hl:k<=ds.length) (h3:((ds.take k).getD (k - 1) Aj).kind=3):EN (ds.take k)=true:=by
 obtain⟨A,B,rfl,hA,hB⟩:=h
 have hkA:k<=A.length:=by
  refine Nat.le_of_not_lt fun GL=>?_
  rw [qD] at hl
  have hm:(((A++B).take k).getD (k - 1) Aj)∈B:=by
   rw [qK,wB MBc,xA ME,<- qK]
   exact Aa Aj ME
  have:=hB _ hm
  omega
 rw [zX hkA,EN,qi]
 intro d hd
 have:=hA d (kQ hd)
 exact qE ME
theorem aH2:NH Z4:=by
 refine⟨ML,fun d hd=>?_⟩
 have hr0:Us yH:=⟨MFR,MCK⟩
 rcases qw.1 hd with rfl | hd
 ·exact⟨MFR,MCK,MBM,fun r hr=>MHE,MH9⟩
 ·rw [qP.1 hd]
  refine⟨by show Dq [97];rw [Dq];decide,MCK,MBM,fun r hr=>MHE,⟨ML,fun c hc=>?_,fun c hc=>?_⟩⟩
  ·rw [qP.1 hc]
   exact⟨hr0,MBM,ML,trivial⟩
  ·rw [qP.1 hc];show 2<=_;decide
structure PlG (q:List De):Prop where
 aOF:Bj q=0
 plain:EN q=true
 big:NH q
 len:q.length<=20
theorem rJ {p:List De} (hb:NH p) (hl:p.length<=20) (hk:aBX true p):PlG (KS p.length p):=by
 rcases WX p.length p with h | ⟨k,h2,O6,h,hs,h3⟩
 ·rw [h]
  exact⟨MCX,MK,aH2,MBM⟩
 ·rw [h]
  exact⟨hs,aBW hk h2 O6 h3,iX hb k,MEM⟩
theorem aE6:(List.range 256).all (fun n=>CU (PK n) && (BQ 8 (UJ n) 30).isSome && DW ((2+n % 2:Nat):Int))=true:=MK
theorem yI {q:List De} (h:CK q=true) (hl:q.length<=20) (hg:0<=SB q/\SB q<=9999) {n:Nat} (hn:n<256):CK (Hm n q)=true:=by
 have ha:=qi.1 aE6 n (xP.2 hn)
 simp only [qC] at ha
 obtain⟨⟨h1,h2⟩,h3⟩:=ha
 simp only [CK,qC,qJ] at h ⊢
 refine⟨by rw [Hm,qD];show q.length+2<=30;omega,?_⟩
 rw [Hm,zf,h.2,xJ]
 generalize SB q=g at hg
 have hw:Im g=true:=MIx
 have hc:Bi [⟨UJ n,[g,0]⟩,⟨.mk 0 0 0 0 yH [] [],[0,g]⟩]=true:=by
  have n1:EE [g,0]=true:=MGG
  have n2:EE [0,g]=true:=MGG
  simp only [Bi,DX,n1,n2,h2];rfl
 have d1:Bg ⟨2,((2+n % 2:Nat):Int),[113],[],[],[]⟩=true:=by
  rw [Bg]
  show(DW _ && _ && _ && BP _)=true
  rw [h3];rfl
 have d2:Bg ⟨3,2,[122],[113],[PK n],[⟨UJ n,[g,0]⟩,⟨.mk 0 0 0 0 yH [] [],[0,g]⟩]⟩=true:=by
  have hk:BP ⟨3,2,[122],[113],[PK n],[⟨UJ n,[g,0]⟩,⟨.mk 0 0 0 0 yH [] [],[0,g]⟩]⟩=true:=by
   rw [BP,qG (show ¬ (3:Int)=1 from MBM),qG (show ¬ (3:Int)=2 from ML),qM (show(3:Int)=3 from rfl)]
   show(_ && Bi _)=true
   rw [hc];rfl
  rw [Bg,hk]
  show(_ && _ && (CU (PK n) && true) && true)=true
  rw [h1];rfl
 show(Bg _ && (Bg _ && true))=true
 rw [d1,d2];rfl
theorem rM {q:List De} (h:EN q=true) (n:Nat):EN (Hm n q)=true:=by
 rw [EN,Hm,zf]
 rw [EN] at h
 rw [h];rfl
theorem PlG.chain {q:List De} (h:PlG q) {n:Nat} (hn:n<256):Bj (Hm n q)=0∨Bj (Hm n q)=390:=by
 have hf:=EY h.aOF
 obtain⟨e,g1,g2⟩:=hf.BD
 exact Rc (yI hf.valid h.len ⟨by show 0<=(q.getD 0 Aj).n;omega,by show(q.getD 0 Aj).n<=_;omega⟩ hn)
set_option maxHeartbeats 40000000
def bbO:Ag:=⟨104,false, .bx [.ptr 0 0 0]⟩
abbrev aRj:OT:=(.pure 0 (.pure 1 (.pure 2 (.pure 3 (.pure 4 (.A8 5 [0] (.pure 6 (.A8 7 [] (.A8 8 [] .fin .nil) .nil)) .nil))))))
theorem aIM {ds:List De} (h:BN ds) (ms:List (List PV)) (ns:List (List UInt8)) {eb es:List (List UInt8 × PV)} {en:List (List PV × PV)} (hT:x8 ds eb es) {j:Nat} (hj:j<ds.length) (aPo:(ds.getD j Aj).kind=3∨(ds.getD j Aj).kind=5) (idx:Int) (hi:0<=idx/\idx<=1000) (hN:Ew eb es en) (nodes:List Nat) :
  A7 cx 36 [.ptr 0 0 0, .p (.agg (ds.getD j Aj).cells), .p (EZ nodes), .p (i64 idx)] (UF ds ms ns eb es en) fun e H'=>∃ Kw fs,Ew eb es Kw/\Es (AY ds ds) idx ((ds.getD j Aj).cases.map Cs.cond) fs/\e=.returned (.fn (.func 62) [] [.ptr 4 0 0, .p (.fp [EZ nodes]), .p (.fp [.Dh fs]), .p (.fp (ds.getD j Aj).cells)])/\H'=⟨5,(4,bbO)::Xi ds ms ns eb es Kw⟩:=by
 have hC:∀ c∈(ds.getD j Aj).cases,iT (ds:=ds) ms ns (eb:=eb) (es:=es) idx c.cond:=fun c hc=>aNV ms ns (eb:=eb) (es:=es) idx h hT hi hj (h.case hj aPo hc).1
 have XG:=(h.few hj aPo).2
 generalize ds.getD j Aj=d at hC XG ⊢
 obtain⟨dk,dn,AQ,Ab,AJ,AZ⟩:=d
 simp only [] at hC XG
 have hdm:(AZ.map Cs.cells).length=AZ.length:=qB ..
 refine holdsN_of_vc Tryz.func36 rfl rfl rfl ?_
 refine⟨Nat × List PV × List (List PV × PV),fun x=>[(3, .p (i64 idx)),(4, .ptr 4 0 0),(5, .ptr 5 0 0),(6, .ptr 6 0 0),(9, .ptr 7 0 0),(13, .p (OI AZ)),(14, .p (i64 AZ.length)),(15, .p (i64 x.1))],fun x=>⟨9,(8,fnO x.2.1)::(7,fbO (.sl 8 1 0 x.2.1.length))::(6,⟨31,false, .bx [.p (EZ nodes)]⟩)::(5,Bl ⟨dk,dn,AQ,Ab,AJ,AZ⟩)::(4,bbO)::Xi ds ms ns eb es x.2.2⟩,
  fun x=>x.1<=AZ.length/\Ew eb es x.2.2/\Es (AY ds ds) idx ((AZ.take x.1).map Cs.cond) x.2.1,fun x=>AZ.length - x.1,?_,?_⟩
 ·exact⟨(0,[],en),MJq,AA [] [] [(8,1)] rfl ⟨rfl,MCW,MBt,MBW,MC,rfl,qH (fun n:Nat=>i64 n) hdm.symm,rfl,trivial⟩ (sk) rfl⟩
 rintro⟨k,fs,nX⟩ ⟨k1,dQ,Qa⟩
 simp only [] at k1 dQ Qa
 have XW:=Qa.len
 rw [qB,qj,xG k1] at XW
 refine qA (fun m1=>?_) (fun m1=>?_)
 ·have m1:(k:Int)<(AZ.length:Nat):=m1
  have hk:k<AZ.length:=by omega
  have AO:=RF hk
  have hC:=hC _ (Aa IM hk) nX dQ
  have Ch:=AU IM hk
  generalize AZ.getD k IM=c at AO hC Ch
  obtain⟨⟨ao,an,arl,av,⟨bn,bm,bp,bi⟩,G8,aa⟩,Ah⟩:=c
  refine⟨_,⟨by omega,(Cs.mk (.mk ao an arl av ⟨bn,bm,bp,bi⟩ G8 aa) Ah).cells,AO,rfl⟩,?_⟩
  refine AR aRj MK ?_
  refine hC.holds.BB [] [] rfl (sk) (sk) fun e0 H0 hq=>?_
  obtain⟨Kw,g,Et,bP,hF,rfl,rfl⟩:=hq
  refine⟨rfl,_,⟨10,(Xi ds ms ns eb es Kw)++[(9,kO ⟨.mk ao an arl av ⟨bn,bm,bp,bi⟩ G8 aa,Ah⟩),(8,fnO fs),(7,fbO (.sl 8 1 0 fs.length)),(6,⟨31,false, .bx [.p (EZ nodes)]⟩),(5,Bl ⟨dk,dn,AQ,Ab,AJ,AZ⟩),(4,bbO)]⟩,rfl,rfl,?_⟩
  refine⟨sk,?_⟩
  refine MFf ?_
  refine MAs ?_
  exact⟨(k+1,fs++[PV.fn (.func g) [] Et],Kw),⟨by show k+1<=AZ.length;omega,bP,by show Es _ _ ((AZ.take (k+1)).map Cs.cond) _;rw [Ch,qX];exact Qa.snoc hF⟩,AA [] [(5,5),(6,6),(7,7),(8,10)] [] rfl (sk) ⟨MFO,⟨_,rfl,rfl,rfl,_,rfl,_,_,rfl,qH (fun j:Nat=>AV.sl 10 1 0 j) (Ak fs _).symm,rfl⟩,MH0,MEj,MCU,MCx,MCv,MAv,MBo,trivial⟩ rfl,MHC⟩
 have m1:¬ (k:Int)<(AZ.length:Nat):=m1
 rw [Ar ME] at Qa
 refine⟨[5,6,7,8],[(4,4)],[], .returned (.fn (.func 62) [] [.ptr 4 0 0, .p (.fp [EZ nodes]), .p (.fp [.Dh fs]), .p (.fp (De.mk dk dn AQ Ab AJ AZ).cells)]),⟨5,(4,bbO)::Xi ds ms ns eb es nX⟩,rfl,⟨_,rfl,⟨rfl,_,_,rfl,rfl,?_⟩⟩,sk,nX,fs,dQ,Qa,rfl,rfl⟩
 exact⟨_,_,rfl,MC,_,_,rfl,MER,_,_,rfl,⟨_,rfl,_,_,rfl,⟨_,rfl,by show 0+fs.length<=fs.length;omega,AB rfl⟩,rfl⟩,_,_,rfl,⟨_,rfl,Qq _ 3 (De.mk dk dn AQ Ab AJ AZ).cells⟩,rfl⟩
theorem aNh (ds:List De) (ms:List (List PV)) (ns:List (List UInt8)) (eb es:List (List UInt8 × PV)) (en:List (List PV × PV)) (nodes:List Nat) :
  A7 cx 63 [.ptr 0 0 0, .p (EZ nodes)] (UF ds ms ns eb es en) fun e H'=>e=.returned (.fn (.func 104) [] [.p (.fp [EZ nodes]), .ptr 4 0 0])/\H'=⟨5,(4,bbO)::Xi ds ms ns eb es en⟩:=by
 refine holdsN_of_vc Tryz.func63 rfl rfl rfl ?_
 exact⟨[5],[(4,4)],[], .returned (.fn (.func 104) [] [.p (.fp [EZ nodes]), .ptr 4 0 0]),⟨5,(4,bbO)::Xi ds ms ns eb es en⟩,rfl,⟨_,rfl,⟨rfl,_,_,rfl,rfl,⟨_,_,rfl,MER,_,_,rfl,MC,rfl⟩⟩⟩,sk,rfl,rfl⟩
def vpO:Ag:=⟨167,false, .bx [.ptr 0 0 0]⟩
theorem aKt {l:List Mb} {idx:Int} {c:Cd} {g:FuncId} {Et:List PV} (hR:Gi l idx c g Et) (vals:List Int) (hv:VX vals):A7 cx 65 [.p (.fn (.func g) [] Et), .ptr 1 0 0] ⟨2,[(1,vpO),(0,RY vals)]⟩ fun e H'=>e=.returned (.p (.bool (BM l idx vals c)))/\H'=⟨2,[(1,vpO),(0,RY vals)]⟩:=by
 have hA:=hR vals hv
 generalize BM l idx vals c=b at hA ⊢
 refine holdsN_of_vc Tryz.func65 rfl rfl rfl ?_
 refine hA.holds.BB [] [] rfl (sk) MFV fun e0 H0 hq=>?_
 obtain⟨rfl,rfl⟩:=hq
 refine⟨rfl,_,⟨2,[(0,RY vals),(1,vpO)]⟩,rfl,rfl,?_⟩
 exact⟨[],[],[], .returned (.p (.bool b)),⟨2,[(1,vpO),(0,RY vals)]⟩,rfl,sk,sk,rfl,rfl⟩
theorem Es.at {l:List Mb} {idx:Int}:∀ {cs:List Cd} {fs:List PV},Es l idx cs fs->∀ k,k<cs.length->∃ g Et,fs[k]?=some (.fn (.func g) [] Et)/\Gi l idx (cs.getD k Fy) g Et
 | [],_,_,k,hk=>by cases hk
 | c::cs,fs,h,k,hk=>by
  obtain⟨g,Et,r,rfl,h1,h2⟩:=h
  cases k with
  | zero=>exact⟨g,Et,rfl,h1⟩
  | succ k=>exact Es.at h2 k MEW
theorem aIO {l:List Mb} {idx:Int} {cs:List Cd} {fs:List PV} (hR:Es l idx cs fs) (vals:List Int) (hv:VX vals) (hl:cs.length<=100) (hex:∃ c∈cs,BM l idx vals c=true) :
  A7 cx 64 [.p (.Dh fs), .fn (.func 65) [] [.ptr 1 0 0]] ⟨2,[(1,vpO),(0,RY vals)]⟩ fun e H'=>∃ k,k<cs.length/\BM l idx vals (cs.getD k Fy)=true/\(∀ i,i<k->BM l idx vals (cs.getD i Fy)=false)/\e=.returned (.p (i64 (k:Nat)))/\H'=⟨2,[(1,vpO),(0,RY vals)]⟩:=by
 have hlen:=hR.len
 refine holdsN_of_vc Tryz.func64 rfl rfl rfl ?_
 refine⟨Nat,fun k=>[(0, .p (.Dh fs)),(1, .fn (.func 65) [] [.ptr 1 0 0]),(7, .p (i64 cs.length)),(8, .p (i64 k))],fun _=>⟨2,[(1,vpO),(0,RY vals)]⟩,fun k=>k<=cs.length/\∀ i,i<k->BM l idx vals (cs.getD i Fy)=false,fun k=>cs.length - k,?_,?_⟩
 ·exact⟨0,⟨qL _,fun i hi=>by omega⟩,AA [] [] [] rfl ⟨rfl,MJS,qH (fun n:Nat=>i64 n) hlen.symm,rfl,trivial⟩ (sk) rfl⟩
 rintro k ⟨k1,k2⟩
 refine qA (fun m1=>?_) (fun m1=>?_)
 rotate_left
 ·have m1:¬ (k:Int)<(cs.length:Nat):=m1
  obtain⟨c,hc,e⟩:=hex
  obtain⟨i,hi,rfl⟩:=I7 Fy hc
  rw [k2 i ME] at e
  cases e
 have m1:(k:Int)<(cs.length:Nat):=m1
 have hk:k<cs.length:=by omega
 obtain⟨g,Et,AO,hF⟩:=hR.at k hk
 have hC:=aKt hF vals hv
 obtain⟨b,hb⟩:∃ b,b=BM l idx vals (cs.getD k Fy):=MX
 rw [<- hb] at hC
 cases b
 ·refine⟨_,MEC,?_⟩
  refine hC.holds.BB [] [] rfl (sk) (sk) fun e0 H0 hq=>?_
  obtain⟨rfl,rfl⟩:=hq
  refine⟨rfl,_,⟨2,[(1,vpO),(0,RY vals)]⟩,rfl,rfl,?_⟩
  refine MAs ?_
  refine⟨k+1,⟨by omega,fun i hi=>?_⟩,AA [] [] [] rfl ⟨rfl,MJS,rfl,rfl,trivial⟩ (sk) rfl,by show cs.length - (k+1)<cs.length - k;omega⟩
  by_cases e:i<k
  ·exact k2 i e
  ·obtain rfl:i=k:=by omega
   exact hb.symm
 ·refine⟨_,MEC,?_⟩
  refine hC.holds.BB [] [] rfl (sk) (sk) fun e0 H0 hq=>?_
  obtain⟨rfl,rfl⟩:=hq
  refine⟨rfl,_,⟨2,[(1,vpO),(0,RY vals)]⟩,rfl,rfl,?_⟩
  exact⟨[],[],[], .returned (.p (i64 (k:Nat))),⟨2,[(1,vpO),(0,RY vals)]⟩,rfl,sk,sk,k,hk,hb.symm,k2,rfl,rfl⟩
theorem yO (card:Nat->Nat):∀ (nodes:List Nat) (v:List Int),(∀ i∈nodes,card i<=4)->(FE card nodes v).length<=4 ^ nodes.length
 | [],_,_=>by rw [FE];show 1<=4 ^ 0;decide
 | x::r,v,h=>by
  rw [FE]
  have h4:=h x (kC ..)
  have h5:=VS (f:=fun c=>FE card r (v.set x (c:Nat))) (B:=4 ^ r.length) (fun c=>yO card r _ fun i hi=>h i (qh _ hi)) (card x)
  rw [qR,jb]
  exact kG h5 (by rw [Nat.mul_comm];exact xq _ h4)
theorem yP {card:Nat->Nat} {v u:List Int}:∀ (a r:List Nat),stepG card r v=(true,u)->stepG card (a++r) v=(true,u)
 | [],_,h=>h
 | x::a,r,h=>by rw [kD,stepG,yP a r h]
def dfO:Ag:=⟨0,false, .df⟩
def oK (names:List (List UInt8)) (a c:Nat) (gr dec:Int):Ag:=⟨TGr,false, .bx [.p (strs names), .p (i64 gr), .sl 6 3 0 a, .p (.int .u64 dec), .sl 7 2 0 c]⟩
def Z9:Ag:=⟨104,false, .bx [.ptr 1 0 0]⟩
def ybO (n:Nat):Ag:=⟨163,false, .bx [.fn (.yield n) [] []]⟩
structure MkS where
 ds:List De
 ms:List (List PV)
 ns:List (List UInt8)
 eb:List (List UInt8 × PV)
 es:List (List UInt8 × PV)
 en:List (List PV × PV)
 gr:Int
 dec:Nat
 nd:List (List PV)
 ut:List Ut
abbrev MkS.L (s:MkS):List (Nat × Ag):=[(7,nP s.ut),(6,nO s.nd),(5,oK s.ns s.nd.length s.ut.length s.gr (s.dec:Nat)),(4,nkO s.en),(3,FK s.es),(2,FK s.eb),(1,bdO s.ds s.ms s.ns 2 3 4),(0,zgO)]
structure LpR where
 N:Nat
 σ:Sg
 ps:List Tmp
 ac:Code
 bd:Code
def LpR.o (r:LpR) (lim:Nat) (st:LoopState) (E5:Option Code):Ag:=⟨0,false, .lp st E5 lim r.N r.σ r.ps r.ac r.bd lim⟩
structure BxR where
 T:TypeId
 TR:TypeId
 pre:List PV
def BxR.o (b:BxR) (A n:Nat):Ag:=⟨b.T,false, .bx (b.pre.map .p++[.sl A 1 0 n])⟩
def BxR.o0 (b:BxR):Ag:=⟨b.T,false, .bx (b.pre.map .p++[.p .Ad])⟩
def BxR.l (b:BxR) (xs:List PV):Ag:=⟨b.TR,false, .pu xs⟩
abbrev oL (b:BxR) (s:MkS) (r1:LpR) (s1:LoopState) (A n:Nat):List (Nat × Ag):=(13,r1.o 12 s1 none)::(12,dfO)::(11,Z9)::(10,b.o A n)::s.L
abbrev iL (b:BxR) (s:MkS) (r1 r2:LpR) (s2 s1:LoopState) (A:Nat) (xs:List PV) (vals:List Int):List (Nat × Ag):=
 (A,b.l xs)::(18,RY vals)::(17,r2.o 16 s2 none)::(16,dfO)::(15,Z9)::(14,ybO 13)::oL b s r1 s1 A xs.length
def aMF:Ag:=⟨167,false, .bx [.ptr 18 0 0]⟩
structure aIJ (ds:List De) (ms:List (List PV)) (card:Nat->Nat) (nodes:List Nat):Prop where
 nodup:nodes.Nodup
 at':∀ v∈nodes,v<8/\1<=card v/\card v<=4/\∃ k j:Nat,k<ds.length/\ms[v]?=some [i64 (k:Nat),i64 (j:Nat)]/\(ds.getD k Aj).n=(card v:Nat)
abbrev aPl:OT:=(.pure 0 (.pure 1 (.pure 2 (.pure 3 (.pure 4 (.pure 5 (.pure 6 (.pure 7 (.pure 8 (.pure 9 (.pure 10 (.pure 11 (.pure 12 (.pure 13 (.pure 14 (.pure 15 (.pure 16 (.pure 17 (.pure 18 (.pure 19 .fin))))))))))))))))))))
theorem aPm (ρ:Nat->Nat) (ni:List (Nat × Nat)) (L:List (Nat × Ag)) {u:List Int} (hl:u.length=8) (v:Nat) (c:Int):GM ρ ni L (Fv (va8 u) (0+v * (0+1)) [.p (i64 c)]) (va8 (u.set v c)):=by
 rw [show 0+v * (0+1)=v by omega,Ql,UG hl,UG (by rw [jI];exact hl),<- jo (f:=fun x=>AV.p (i64 x))]
 exact nZ _ _ _ _
theorem aPn (ρ:Nat->Nat) (ni:List (Nat × Nat)) (L:List (Nat × Ag)) {u:List Int} (hl:u.length=8) (v:Nat) (c:Int):GM ρ ni L (Fv (Fv (va8 u) (0+v * (0+1)) [.p (i64 c)]) (0+v * (0+1)) [.p (i64 0)]) (va8 (u.set v 0)):=by
 rw [show 0+v * (0+1)=v by omega,Ql,Ql,List.set_set,UG hl,UG (by rw [jI];exact hl),<- jo (f:=fun x=>AV.p (i64 x))]
 exact nZ _ _ _ _
theorem aNi {u:List Int} {v:Nat} {c:Int} (h:v<8):(Fv (va8 u) (0+v * (0+1)) [.p (i64 c)])[0+v * (0+1)]?=some (.p (i64 c)):=by
 rw [show 0+v * (0+1)=v by omega,Ql,jg,qM rfl,qM (by show v<8;exact h)]
theorem aIP {vals:List Int} (h:VX vals):∀ i,0<=vals.getD i 0/\vals.getD i 0<=3:=fun i=>by
 by_cases hi:i<8
 ·have:=h.val i hi;omega
 ·rw [qK,kv (by rw [h.len];omega)]
  exact⟨MBM,ML⟩
structure InM (s:MkS) (hl:List (Nat × Ag)):Prop where
 l7:Aq hl 7=some (nP s.ut)
 l6:Aq hl 6=some (nO s.nd)
 l5:Aq hl 5=some (oK s.ns s.nd.length s.ut.length s.gr (s.dec:Nat))
 l0:Aq hl 0=some zgO
structure InC (b:BxR) (s:MkS) (r1 r2:LpR) (s1:LoopState) (hl:List (Nat × Ag)):Prop extends InM s hl where
 l17:Aq hl 17=some (r2.o 16 .ready none)
 l16:Aq hl 16=some dfO
 l15:Aq hl 15=some Z9
 l14:Aq hl 14=some (ybO 13)
 l13:Aq hl 13=some (r1.o 12 s1 none)
 l12:Aq hl 12=some dfO
 l11:Aq hl 11=some Z9
 l10:Aq hl 10=some b.o0
 l4:Aq hl 4=some (nkO s.en)
 l3:Aq hl 3=some (FK s.es)
 l2:Aq hl 2=some (FK s.eb)
 l1:Aq hl 1=some (bdO s.ds s.ms s.ns 2 3 4)
theorem aPk (b:BxR) (s:MkS) (r1 r2:LpR) (s1:LoopState) (hl:List (Nat × Ag)) (hI:InC b s r1 r2 s1 hl) {card:Nat->Nat} {nodes:List Nat} (hN:aIJ s.ds s.ms card nodes) (hn8:nodes.length<=8) (F:List Int->PV) (Wo:Sg) (PG:List AD) (Q:KQ)
  (Iq:Q .normal Wo PG ⟨20,iL b s r1 r2 .exhausted s1 19 ((FE card nodes (DV 8)).map F) (DV 8)⟩)
  (Wq:∀ (vals:List Int) (xs:List PV) (K:AE->Hp->Prop),VX vals->xs.length<=65536->vals∈FE card nodes (DV 8)->K (.returned (vB true)) ⟨22,iL b s r1 r2 .ready s1 21 (xs++[F vals]) vals⟩->Li cx 17 [.ptr 18 0 0] ⟨20,iL b s r1 r2 .ready s1 19 xs vals⟩ K) :
  A7 cx 104 [.fn (.yield 17) [] [], .p (.fp [EZ nodes]), .ptr 15 0 0] ⟨18,hl⟩ (Ro 17 Wo PG Q):=by
 have hz8:∀ x∈nodes,1<=card x/\x<(DV 8).length/\(DV 8).getD x 0=0:=fun x hx=>⟨(hN.at' x hx).2.1,(hN.at' x hx).1,aB7 8 x⟩
 have aMG:=aCo (iH card nodes (DV 8) hN.nodup hz8)
 obtain⟨T,hT⟩:=VN card nodes (DV 8) hz8
 have hlen:(FE card nodes (DV 8)).length<=65536:=kG (yO card nodes (DV 8) fun i hi=>(hN.at' i hi).2.2.1) (kG (kY MBM hn8) ML)
 have aMH:∀ vals∈FE card nodes (DV 8),VX vals:=fun vals hv=>by
  obtain⟨c1,c2,c3⟩:=rq hv
  refine⟨c1,fun i hi=>?_⟩
  by_cases bV:i∈nodes
  ·obtain⟨c,hc,e⟩:=c3 i bV hi
   have:=(hN.at' i bV).2.2.1
   rw [e];omega
  ·rw [c2 i bV,aB7];omega
 have nC:0<(FE card nodes (DV 8)).length:=by rw [hT];simp
 have h0:(FE card nodes (DV 8)).getD 0 []=DV 8:=MJn
 obtain⟨C,hC⟩:∃ C,C=FE card nodes (DV 8):=MX
 rw [<- hC] at aMG hlen aMH nC h0 Iq Wq
 clear hT hC
 have F4:(nodes.map fun i=>i64 ((i:Nat):Int)).length=nodes.length:=qB ..
 refine holdsN_of_vc Tryz.func104 rfl rfl rfl ?_
 refine⟨Nat × List Int × List PV,fun _=>[(0, .fn (.yield 17) [] []),(1, .p (.fp [EZ nodes])),(2, .ptr 15 0 0),(4, .ptr 18 0 0)],fun x=>⟨20,iL b s r1 r2 .ready s1 19 x.2.2 x.2.1⟩,
  fun x=>x.1<C.length/\x.2.1=C.getD x.1 []/\x.2.2=(C.take x.1).map F,fun x=>C.length - x.1,?_,?_⟩
 ·refine⟨(0,DV 8,[]),⟨nC,h0.symm,rfl⟩,AA [] [(18,18)] [(19,1)] rfl ⟨MBw,rfl,MBW,MC,trivial⟩ ?_ rfl⟩
  exact⟨⟨rfl,rfl,rfl⟩,MBo,⟨_,hI.l17,rfl,rfl,rfl,rfl,rfl⟩,⟨_,hI.l16,rfl,rfl,rfl⟩,⟨_,hI.l15,rfl,rfl,_,rfl,_,_,rfl,MC,rfl⟩,⟨_,hI.l14,rfl,rfl,_,rfl,_,_,rfl,MBw,rfl⟩,
   ⟨_,hI.l13,rfl,rfl,rfl,rfl,rfl⟩,⟨_,hI.l12,rfl,rfl,rfl⟩,⟨_,hI.l11,rfl,rfl,_,rfl,_,_,rfl,MC,rfl⟩,⟨_,hI.l10,rfl,rfl,_,rfl,JZ (Dc _ _ _ b.pre) ⟨_,_,rfl,MFP,rfl⟩⟩,
   ⟨_,hI.l7,rfl,rfl,rfl⟩,⟨_,hI.l6,rfl,rfl,rfl⟩,⟨_,hI.l5,rfl,rfl,_,rfl,_,_,rfl,rfl,_,_,rfl,rfl,_,_,rfl,rfl,_,_,rfl,rfl,_,_,rfl,rfl,rfl⟩,⟨_,hI.l4,rfl,rfl,rfl⟩,⟨_,hI.l3,rfl,rfl,rfl⟩,⟨_,hI.l2,rfl,rfl,rfl⟩,⟨_,hI.l1,rfl,rfl,_,rfl,_,_,rfl,rfl,_,_,rfl,rfl,_,_,rfl,rfl,_,_,rfl,⟨rfl,rfl⟩,_,_,rfl,⟨rfl,rfl⟩,_,_,rfl,⟨rfl,rfl⟩,rfl⟩,⟨_,hI.l0,rfl,rfl,_,rfl,Dc _ _ _ [.Ad,i64 0, .Ad, .int .u64 0, .Ad]⟩,trivial⟩
 rintro⟨k,vals,xs⟩ ⟨k1,k2,k3⟩
 simp only [] at k1 k2 k3
 have Dy:vals∈C:=by rw [k2];exact Aa [] k1
 have hv:=aMH vals Dy
 have hg:=aMG k k1
 rw [<- k2] at hg
 have Ch:(C.take (k+1)).map F=xs++[F vals]:=by rw [AU [] k1,qX,<- k3,<- k2];rfl
 refine Wq vals xs _ hv (by rw [k3,qB,qj];omega) Dy ?_
 refine⟨((nodes.length:Nat):Int) - 1,by show _=IntKind.i64.wrap ((((nodes.map fun i=>i64 ((i:Nat):Int)).length:Nat):Int) - 1);rw [F4];exact wrap_i64 MBc ME,?_⟩
 refine⟨Int × List Int,fun x=>[(0, .fn (.yield 17) [] []),(1, .p (.fp [EZ nodes])),(2, .ptr 15 0 0),(4, .ptr 18 0 0),(5, .p (i64 x.1))],fun x=>⟨20,iL b s r1 r2 .ready s1 19 (xs++[F vals]) x.2⟩,
  fun x=>-1<=x.1/\x.1<nodes.length/\stepG card (nodes.drop (x.1+1).toNat) vals=(false,x.2)/\x.2.length=8/\∀ i,0<=x.2.getD i 0/\x.2.getD i 0<=3,fun x=>(x.1+1).toNat,?_,?_⟩
 ·refine⟨(((nodes.length:Nat):Int) - 1,vals),⟨by show -1<=((nodes.length:Nat):Int) - 1;omega,by show((nodes.length:Nat):Int) - 1<nodes.length;omega,?_,hv.len,aIP hv⟩,AA [] [(18,18),(19,21)] [] rfl MKv ?_ rfl⟩
  ·show stepG card (nodes.drop (((nodes.length:Nat):Int) - 1+1).toNat) vals=_
   rw [qb ME];rfl
  ·exact MBf
 rintro⟨j,u⟩ ⟨j1,j2,j3,j4,j5⟩
 simp only [] at j1 j2 j3 j4 j5
 refine qA (fun m1=>?_) (fun m1=>?_)
 rotate_left
 ·have m1:¬ 0<=j:=m1
  obtain rfl:j=-1:=by omega
  rw [show((-1:Int)+1).toNat=0 from rfl,ji,hg] at j3
  by_cases hl:k+1<C.length
  ·rw [qM hl] at j3
   injection j3 with e1 e2
   cases e1
  rw [qG hl] at j3
  injection j3 with _ e2
  subst e2
  rw [Ar ME] at Ch
  refine MD4 ?_
  refine⟨[],[(18,18),(19,19)],[], .returned Bv,⟨20,iL b s r1 r2 .ready s1 19 (xs++[F vals]) (DV 8)⟩,rfl,sk,?_,by rw [Ch] at Iq;exact Iq⟩
  exact MBf
 have m1:0<=j:=m1
 obtain⟨q,rfl⟩:∃ q:Nat,j=((q:Nat):Int):=⟨j.toNat,by omega⟩
 have hq:q<nodes.length:=by omega
 have AO:=aL7 hq
 have hmv:=Aa 0 hq
 have RU:=EO 0 hq
 rw [show(((q:Nat):Int)+1).toNat=q+1 by omega] at j3
 obtain⟨v8,c1,c4,kd,jd,hkd,hms,hdn⟩:=hN.at' _ hmv
 have bK:∀ w,stepG card (nodes.drop q) vals=(true,w)->stepG card nodes vals=(true,w):=fun w hw=>by
  have:=yP (nodes.take q) _ hw
  rwa [kE] at this
 rw [RU] at bK
 generalize nodes.getD q 0=v at AO hmv RU v8 c1 c4 hms hdn bK
 have BJ:stepG card (v::nodes.drop (q+1)) vals=if u.getD v 0+1<(card v:Nat) then(true,u.set v (u.getD v 0+1)) else(false,u.set v 0):=by rw [stepG,j3]
 have aIQ:=Fj hkd
 generalize s.ds.getD kd Aj=d at aIQ hdn
 obtain⟨dk,dn,AQ,Ab,AJ,AZ⟩:=d
 have hdn:dn=(card v:Nat):=hdn
 have hc:=aHw (vals:=u) (i:=v) j4 v8
 have hj5:=j5 v
 generalize u.getD v 0=a at hc BJ hj5
 have hc1:=aNi (u:=u) (v:=v) (c:=a+1) v8
 refine⟨_,MEC,?_⟩
 refine⟨MEO,?_⟩
 refine⟨.p (i64 a),Pb rfl hc,?_⟩
 refine MAs ?_
 refine⟨MEO,?_⟩
 refine⟨by show 0+v * (0+1)+1<=8;omega,?_⟩
 refine AR aPl MK ?_
 refine⟨MEO,?_⟩
 refine⟨.p (i64 (a+1)),Pb rfl hc1,?_⟩
 refine⟨_,⟨by omega,[i64 (kd:Nat),i64 (jd:Nat)],hms,rfl⟩,?_⟩
 refine⟨_,⟨by omega,(De.mk dk dn AQ Ab AJ AZ).cells,aIQ,rfl⟩,?_⟩
 refine qA (fun o1=>?_) (fun o1=>?_)
 ·have o1:a+1<dn:=o1
  rw [qM ME] at BJ
  have hs:=bK _ BJ
  rw [hs] at hg
  by_cases hl:k+1<C.length
  rotate_left
  ·rw [qG hl] at hg
   injection hg with e1 e2
   cases e1
  rw [qM hl] at hg
  injection hg with _ hg
  refine And.intro (fun h=>absurd (show((q:Nat):Int)<0 from h) ME) (fun _=>?_)
  refine⟨(k+1,u.set v (a+1),xs++[F vals]),⟨hl,hg,Ch.symm⟩,AA [] [(18,18),(19,19)] [] rfl ⟨MBw,rfl,MBW,MC,trivial⟩ ?_ rfl,by show C.length - (k+1)<C.length - k;omega⟩
  exact⟨MCv,⟨_,rfl,rfl,rfl,_,rfl,aPm _ _ _ j4 v (a+1)⟩,MCV,MAv,MCy,MEp,
  MCV,MAv,MCy,MEo,
  ⟨_,rfl,rfl,rfl,rfl⟩,⟨_,rfl,rfl,rfl,rfl⟩,⟨_,rfl,rfl,rfl,_,rfl,_,_,rfl,rfl,_,_,rfl,rfl,_,_,rfl,rfl,_,_,rfl,rfl,_,_,rfl,rfl,rfl⟩,⟨_,rfl,rfl,rfl,rfl⟩,⟨_,rfl,rfl,rfl,rfl⟩,⟨_,rfl,rfl,rfl,rfl⟩,⟨_,rfl,rfl,rfl,_,rfl,_,_,rfl,rfl,_,_,rfl,rfl,_,_,rfl,rfl,_,_,rfl,⟨rfl,rfl⟩,_,_,rfl,⟨rfl,rfl⟩,_,_,rfl,⟨rfl,rfl⟩,rfl⟩,⟨_,rfl,rfl,rfl,_,rfl,Dc _ _ _ [.Ad,i64 0, .Ad, .int .u64 0, .Ad]⟩,trivial⟩
 ·have o1:¬ a+1<dn:=o1
  rw [qG ME] at BJ
  refine⟨MEO,?_⟩
  refine⟨by show 0+v * (0+1)+1<=(Fv (va8 u) (0+v * (0+1)) [.p (i64 (a+1))]).length;rw [Ep];show _<=8;omega,?_⟩
  refine⟨((q:Nat):Int) - 1,wrap_i64 MBc ME,?_⟩
  refine⟨(((q:Nat):Int) - 1,u.set v 0),⟨by show -1<=((q:Nat):Int) - 1;omega,by show((q:Nat):Int) - 1<nodes.length;omega,?_,by show(u.set v 0).length=8;rw [jI];exact j4,?_⟩,AA [] [(18,18),(19,19)] [] rfl MKv ?_ rfl,by show(((q:Nat):Int) - 1+1).toNat<(((q:Nat):Int)+1).toNat;omega⟩
  ·show stepG card (nodes.drop (((q:Nat):Int) - 1+1).toNat) vals=_
   rw [show(((q:Nat):Int) - 1+1).toNat=q by omega,RU,BJ]
  ·intro i
   rw [aQL]
   split
   ·exact⟨MBM,ML⟩
   ·exact j5 i
  ·exact⟨MCv,⟨_,rfl,rfl,rfl,_,rfl,aPn _ _ _ j4 v (a+1)⟩,MCV,MAv,MCy,MEp,
   MCV,MAv,MCy,MEo,
   ⟨_,rfl,rfl,rfl,rfl⟩,⟨_,rfl,rfl,rfl,rfl⟩,⟨_,rfl,rfl,rfl,_,rfl,_,_,rfl,rfl,_,_,rfl,rfl,_,_,rfl,rfl,_,_,rfl,rfl,_,_,rfl,rfl,rfl⟩,⟨_,rfl,rfl,rfl,rfl⟩,⟨_,rfl,rfl,rfl,rfl⟩,⟨_,rfl,rfl,rfl,rfl⟩,⟨_,rfl,rfl,rfl,_,rfl,_,_,rfl,rfl,_,_,rfl,rfl,_,_,rfl,rfl,_,_,rfl,⟨rfl,rfl⟩,_,_,rfl,⟨rfl,rfl⟩,_,_,rfl,⟨rfl,rfl⟩,rfl⟩,⟨_,rfl,rfl,rfl,_,rfl,Dc _ _ _ [.Ad,i64 0, .Ad, .int .u64 0, .Ad]⟩,trivial⟩
theorem JJ {ρ:Nat->Nat} {L0:List (Nat × Ag)} {m:Nat} {o:Ag} (hi:Yb ρ L0 m=false):∀ {l:List (Nat × Ag)},Aq l m=some o->Aq (Y.rest ρ L0 l) m=some o
 | [],h=>h
 | (n,x)::r,h=>by
  rw [Aq] at h
  by_cases e:n=m
  ·subst e
   rw [Y.rest,hi]
   show Aq ((n,x)::_) n=_
   rw [Aq]
   simpa using h
  ·have hb:Nat.beq n m=false:=by
    cases hq:Nat.beq n m with
    | true=>exact absurd (qI hq) e
    | false=>rfl
   rw [hb] at h
   rw [Y.rest]
   cases hq:Yb ρ L0 n with
   | true=>exact JJ hi h
   | false=>
    show Aq ((n,x)::_) m=_
    rw [Aq,hb]
    exact JJ hi h
theorem aIN {cs:List Cs} {f:Cd->Bool}:∀ {k:Nat},k<cs.length->f (cs.getD k IM).cond=true->(∀ i,i<k->f (cs.getD i IM).cond=false)->cs.find? (fun c=>f c.cond)=some (cs.getD k IM):=by
 induction cs with
 | nil=>intro k h;cases h
 | cons c cs ih=>
  intro k hk h1 h2
  cases k with
  | zero=>
   have h1:f c.cond=true:=h1
   rw [jO,h1];rfl
  | succ k=>
   have h0:f c.cond=false:=h2 0 ME
   rw [jO,h0]
   exact ih MEW h1 fun i hi=>h2 (i+1) ME
theorem yN {cs:List Cs} {k:Nat} (h:k<cs.length):(cs.map Cs.cond).getD k Fy=(cs.getD k IM).cond:=by
 rw [qK,kF,qW h,qK,qW h];rfl
abbrev aRh:OT:=(.pure 0 (.pure 1 (.pure 2 (.pure 3 (.pure 4 (.pure 5 (.pure 6 (.A8 7 [] (.pure 8 .fin) .nil))))))))
theorem aME (b:BxR) (s:MkS) (r1:LpR) (hl:List (Nat × Ag)) (hI:InM s hl) {card:Nat->Nat} {nodes:List Nat} (hN:aIJ s.ds s.ms card nodes) (hn8:nodes.length<=8) (l:List Mb) (idx:Int) (d:De) {fs:List PV} (hR:Es l idx (d.cases.map Cs.cond) fs) (XG:d.cases.length<=12) (hex:∀ vals,∃ c∈d.cases,BM l idx vals c.cond=true) (G:List Int->PV) (Wo:Sg) (PG:List AD) (Q:KQ)
  (Iq:∀ xs,xs=(FE card nodes (DV 8)).map (fun v=>G (F8 l d.cases idx v))->Q .normal Wo PG ⟨15,(14,b.l xs)::oL b s r1 .exhausted 14 xs.length⟩)
  (Wq:∀ (Ah:List Int) (xs:List PV) (vals:List Int) (r2:LpR) (K:AE->Hp->Prop),xs.length<=65536->(∃ c∈d.cases,Ah=c.Ah)->(K (.returned (vB true)) ⟨22,iL b s r1 r2 .busy .ready 21 (xs++[G Ah]) vals⟩) ->
   Li cx 13 [.p (ints Ah)] ⟨21,(20,aMF)::(18,RY vals)::(19,b.l xs)::(17,r2.o 16 .busy none)::(16,dfO)::(15,Z9)::(14,ybO 13)::oL b s r1 .ready 19 xs.length⟩ K) :
  A7 cx 62 [.fn (.yield 13) [] [], .ptr 11 0 0, .p (.fp [EZ nodes]), .p (.fp [.Dh fs]), .p (.fp d.cells)] ⟨14,(13,r1.o 12 .ready none)::(12,dfO)::(11,Z9)::(4,nkO s.en)::(3,FK s.es)::(2,FK s.eb)::(1,bdO s.ds s.ms s.ns 2 3 4)::(10,b.o0)::hl⟩ (Ro 13 Wo PG Q):=by
 obtain⟨dk,dn,AQ,Ab,AJ,AZ⟩:=d
 simp only [] at hR XG hex Iq Wq
 refine holdsN_of_vc Tryz.func62 rfl rfl rfl ?_
 refine(aNh s.ds s.ms s.ns s.eb s.es s.en nodes).holds.BB [] [(0,1),(1,2),(2,3),(3,4)] rfl (sk) (sk) fun e0 H0 hq=>?_
 obtain⟨rfl,rfl⟩:=hq
 refine⟨rfl,_,⟨16,(15,Z9)::(4,nkO s.en)::(3,FK s.es)::(2,FK s.eb)::(1,bdO s.ds s.ms s.ns 2 3 4)::(14,ybO 13)::(13,r1.o 12 .ready none)::(12,dfO)::(11,Z9)::(10,b.o0)::Y.rest (CW 0 [(0,1),(1,2),(2,3),(3,4)] 4 15) (Xi s.ds s.ms s.ns s.eb s.es s.en) hl⟩,rfl,rfl,?_⟩
 refine NN ?_
 intro σ' ps ac bd e1 e2 e3 e4
 refine aPk b s r1 ⟨Tryz.f62.ntmps,σ',ps,ac,bd⟩ .ready _ ?_ hN hn8 (fun v=>G (F8 l AZ idx v)) _ _ _ ?_ ?_
 ·exact⟨⟨JJ rfl hI.l7,JJ rfl hI.l6,JJ rfl hI.l5,JJ rfl hI.l0⟩,rfl,rfl,rfl,rfl,rfl,rfl,rfl,rfl,rfl,rfl,rfl,rfl⟩
 ·have Iq:=Iq _ rfl
  generalize (FE card nodes (DV 8)).map (fun v=>G (F8 l AZ idx v))=xs at Iq ⊢
  refine⟨[],[(14,19)],[], .returned Bv,⟨15,(14,b.l xs)::oL b s r1 .ready 14 xs.length⟩,rfl,sk,?_,Iq⟩
  exact⟨MAv,
  MCV,MAv,MCy,MEo,
  ⟨_,rfl,rfl,rfl,rfl⟩,⟨_,rfl,rfl,rfl,rfl⟩,⟨_,rfl,rfl,rfl,_,rfl,_,_,rfl,rfl,_,_,rfl,rfl,_,_,rfl,rfl,_,_,rfl,rfl,_,_,rfl,rfl,rfl⟩,⟨_,rfl,rfl,rfl,rfl⟩,⟨_,rfl,rfl,rfl,rfl⟩,⟨_,rfl,rfl,rfl,rfl⟩,⟨_,rfl,rfl,rfl,_,rfl,_,_,rfl,rfl,_,_,rfl,rfl,_,_,rfl,rfl,_,_,rfl,⟨rfl,rfl⟩,_,_,rfl,⟨rfl,rfl⟩,_,_,rfl,⟨rfl,rfl⟩,rfl⟩,⟨_,rfl,rfl,rfl,_,rfl,Dc _ _ _ [.Ad,i64 0, .Ad, .int .u64 0, .Ad]⟩,trivial⟩
 ·intro vals xs K hv hxl Dy hK
  subst e1 e2 e3 e4
  refine GZ rfl rfl rfl ?_
  refine(aIO hR vals hv MAI ?_).holds.BB [] [(0,18),(1,20)] rfl (sk) (sk) fun e0 H0 hq=>?_
  ·obtain⟨c,hc,e⟩:=hex vals
   exact⟨c.cond,qz.2 ⟨c,hc,rfl⟩,e⟩
  obtain⟨k,k1,k2,k3,rfl,rfl⟩:=hq
  rw [qB] at k1
  rw [yN k1] at k2
  have k3:∀ i,i<k->BM l idx vals (AZ.getD i IM).cond=false:=fun i hi=>by rw [<- yN ME];exact k3 i hi
  have aRi:F8 l AZ idx vals=(AZ.getD k IM).Ah:=by rw [F8,aIN (f:=fun c=>BM l idx vals c) k1 k2 k3]
  rw [aRi] at hK
  have AO:=RF k1
  have hcm:=Aa IM k1
  refine⟨rfl,_,⟨21,(20,aMF)::(18,RY vals)::(19,b.l xs)::(17,LpR.o ⟨_,_,_,_,_⟩ 16 .busy none)::(16,dfO)::(15,Z9)::(14,ybO 13)::oL b s r1 .ready 19 xs.length⟩,rfl,rfl,?_⟩
  generalize AZ.getD k IM=c at AO hK hcm
  obtain⟨⟨xo,xn,xr,xv,⟨rn,rm,rp,ri⟩,xs',xa⟩,Ah⟩:=c
  refine AR aRh MK ?_
  refine⟨_,⟨by omega,(Cs.mk (.mk xo xn xr xv ⟨rn,rm,rp,ri⟩ xs' xa) Ah).cells,AO,rfl⟩,?_⟩
  refine Wq Ah xs vals ⟨_,_,_,_,_⟩ _ hxl ⟨_,hcm,rfl⟩ ?_
  exact hK
def dgI (n:Int):UInt8:=UInt8.ofNat (48+n.toNat)
def yS (n:Int):List UInt8:=if n<10 then [dgI n] else [dgI (n / 10),dgI (n % 10)]
theorem aKv:∀ n<10,sub [48,49,50,51,52,53,54,55,56,57,97,98,99,100,101,102,103,104,105,106,107,108,109,110,111,112,113,114,115,116,117,118,119,120,121,122] (some ((n:Nat):Int)) (some ((n:Int)+1))=[dgI n]:=ML
def aKw:List UInt8:=[48,48,48,49,48,50,48,51,48,52,48,53,48,54,48,55,48,56,48,57,49,48,49,49,49,50,49,51,49,52,49,53,49,54,49,55,49,56,49,57,50,48,50,49,50,50,50,51,50,52,50,53,50,54,50,55,50,56,50,57,51,48,51,49,51,50,51,51,51,52,51,53,51,54,51,55,51,56,51,57,52,48,52,49,52,50,52,51,52,52,52,53,52,54,52,55,52,56,52,57,53,48,53,49,53,50,53,51,53,52,53,53,53,54,53,55,53,56,53,57,54,48,54,49,54,50,54,51,54,52,54,53,54,54,54,55,54,56,54,57,55,48,55,49,55,50,55,51,55,52,55,53,55,54,55,55,55,56,55,57,56,48,56,49,56,50,56,51,56,52,56,53,56,54,56,55,56,56,56,57,57,48,57,49,57,50,57,51,57,52,57,53,57,54,57,55,57,56,57,57]
theorem aKx:∀ n<100,10<=n->sub aKw (some ((n:Nat) * 2:Int)) (some ((n:Int) * 2+2))=yS n:=by decide +kernel
theorem aIT (x:Int) (h0:0<=x) (h9:x<100):Pure cx 191 [i64 x] (·=.ret [.str (yS x)]):=by
 refine pure_of_vc Tryz.func191 rfl rfl rfl ?_
 obtain⟨n,rfl⟩:∃ n:Nat,x=n:=⟨x.toNat,by omega⟩
 refine qA (fun h1=>?_) (fun h1=>?_)
 ·have h1:(n:Int)<10:=h1
  refine MAs ?_
  refine⟨by show(0:Int)<=n/\(n:Int)<=(n:Int)+1/\(n:Int)+1<=36;omega,?_⟩
  refine AL _ rfl rfl ?_
  rw [yS,qM h1]
  exact qH (fun z=>PEnd.ret [.str z]) (aKv n ME)
 ·have h1:¬ (n:Int)<10:=h1
  refine⟨(n:Int) * 2,wrap_i64 MBc ME,?_⟩
  refine⟨(n:Int) * 2,wrap_i64 MBc ME,?_⟩
  refine⟨(n:Int) * 2+2,wrap_i64 MBc ME,?_⟩
  refine⟨by show(0:Int)<=(n:Int) * 2/\(n:Int) * 2<=(n:Int) * 2+2/\(n:Int) * 2+2<=200;omega,?_⟩
  exact AL _ rfl rfl (qH (fun z=>PEnd.ret [.str z]) (aKx n MBc ME))
theorem aNl (x:Int) (h0:0<=x) (h9:x<100):Pure cx 139 [i64 x,i64 10] (·=.ret [.str (yS x)]):=by
 refine pure_of_vc Tryz.func139 rfl rfl rfl ?_
 refine MJ ?_
 refine qA (fun h1=>?_) (fun h1=>?_)
 ·refine qA (fun h2=>?_) (fun h2=>?_)
  ·exact(aIT x h0 h9).eq rfl (AL _ rfl rfl rfl)
  ·omega
 ·omega
theorem aKy (x:Int) (h0:0<=x) (h9:x<100):Pure cx 92 [i64 x] (·=.ret [.str (yS x)]):=by
 refine pure_of_vc Tryz.func92 rfl rfl rfl ?_
 exact(aNl x h0 h9).eq rfl (AL _ rfl rfl rfl)
theorem aDA (x:Int) (h0:0<=x) (h9:x<100):Pure cx 57 [i64 x] (·=.ret [.str (yS x)]):=by
 refine pure_of_vc Tryz.func57 rfl rfl rfl ?_
 exact(aKy x h0 h9).eq rfl (AL _ rfl rfl rfl)
end Go.Proofs.YtkegmchjobphdaaGreatDoor
namespace Go.Proofs.YtkegmchjobphdaaGreatDoor
open Go Y
set_option maxRecDepth 100000
set_option maxHeartbeats 40000000
theorem DC {a b:List UInt8} {x:PV}:∀ {l:List (List UInt8 × PV)},BR (Ed l a x) b=if b=a then some x else BR l b
 | []=>by
  show(match decide (b=a) with | true=>some x | false=>none)=if b=a then some x else none
  by_cases e:b=a
  ·rw [qE e,qM e]
  ·rw [qF e,qG e]
 | (k,y)::l=>by
  by_cases h:a=k
  ·have e0:Ed ((k,y)::l) a x=(k,x)::l:=by rw [Ed,qE h]
   rw [e0,h]
   show(match decide (b=k) with | true=>some x | false=>BR l b)=if b=k then some x else(match decide (b=k) with | true=>some y | false=>BR l b)
   by_cases e:b=k
   ·rw [qE e,qM e]
   ·rw [qF e,qG e]
  ·have e0:Ed ((k,y)::l) a x=(k,y)::Ed l a x:=by rw [Ed,qF h]
   rw [e0]
   show(match decide (b=k) with | true=>some y | false=>BR (Ed l a x) b)=if b=a then some x else(match decide (b=k) with | true=>some y | false=>BR l b)
   rw [DC (l:=l)]
   by_cases e:b=k
   ·have dS:¬ b=a:=fun q=>h (by rw [<- q,e])
    simp only [qE e,qG dS]
   ·rw [qF e]
structure Ii (ds:List De) (X:List (List PV)) (M:List Mb):Prop where
 len:X.length=M.length
 at':∀ i,i<M.length->∃ k j:Nat,k<ds.length/\X[i]?=some [i64 (k:Nat),i64 (j:Nat)]/\(M.getD i FO).d=ds.getD k Aj/\(M.getD i FO).idx=(j:Nat)
theorem Ii.nil (ds:List De):Ii ds [] []:=⟨rfl,fun i h=>MGA⟩
theorem Ii.snoc {ds:List De} {X:List (List PV)} {M:List Mb} {k j:Nat} {m:Mb} (h:Ii ds X M) (hk:k<ds.length) (hd:m.d=ds.getD k Aj) (hj:m.idx=(j:Nat)):Ii ds (X++[[i64 (k:Nat),i64 (j:Nat)]]) (M++[m]):=by
 refine⟨by rw [Ak,Ak,h.len],fun i hi=>?_⟩
 rw [Ak] at hi
 by_cases e:i<M.length
 ·obtain⟨k',j',h1,h2,h3,h4⟩:=h.at' i e
  have e2:(M++[m]).getD i FO=M.getD i FO:=by rw [qK,xN e,<- qK]
  rw [e2]
  exact⟨k',j',h1,by rw [xN (by rw [h.len];exact e)];exact h2,h3,h4⟩
 ·obtain rfl:i=M.length:=by omega
  have e2:(M++[m]).getD M.length FO=m:=by rw [qK,xA (qN _),jZ];rfl
  rw [e2]
  exact⟨k,j,hk,by rw [<- h.len,xA (qN _),jZ];rfl,hd,hj⟩
theorem aNj {p:List De} {d:De} (hk:d.kind=3∨d.kind=4) {j:Nat} (hj:j<Fh p d):(EB p d).getD j FO=⟨d,(j:Nat),if d.Ae=[] then d.name else Sb d j⟩:=by
 by_cases hp:d.Ae=[]
 ·rw [IK hk hp] at hj
  obtain rfl:j=0:=by omega
  rw [EB,qM hk,qM hp,qM hp];rfl
 ·rw [I9 hk hp] at hj
  rw [EB,qM hk,qG hp,qG hp,qK,kF,xm hj];rfl
structure aA (ds:List De) (k:Nat) (eb es:List (List UInt8 × PV)):Prop where
 base:∀ i,i<k->((ds.getD i Aj).kind=3∨(ds.getD i Aj).kind=4)->BR eb (ds.getD i Aj).name=some (i64 ((AY ds (ds.take i)).length:Nat))
 size:∀ i,i<k->((ds.getD i Aj).kind=3∨(ds.getD i Aj).kind=4)->BR es (ds.getD i Aj).name=some (i64 (Fh ds (ds.getD i Aj):Nat))
 Ae:∀ i,i<k->(ds.getD i Aj).kind=2->BR es (ds.getD i Aj).name=some (i64 (ds.getD i Aj).n)
def aRk (ds:List De) (x n:Nat):Ag:=⟨TBd,false, .bx [.p (Dw ds), .sl 4 2 0 x, .sl 5 1 0 n, .mp 1, .mp 2, .mp 3]⟩
def msO (X:List (List PV)):Ag:=⟨112,false, .GN X⟩
def nsO (l:List (List UInt8)):Ag:=⟨9,false, .pu (l.map .str)⟩
abbrev nbL (ds:List De) (X:List (List PV)) (nm:List (List UInt8)) (eb es:List (List UInt8 × PV)):List (Nat × Ag):=[(5,nsO nm),(4,msO X),(3,nkO []),(2,FK es),(1,FK eb),(0,aRk ds X.length nm.length)]
abbrev nbS (ds:List De) (k:Nat):List (Nat × AV):=[(3, .ptr 0 0 0),(18, .p (Dw ds)),(19, .p (i64 ds.length)),(20, .p (i64 k))]
abbrev aRl:OT:=(.pure 0 (.pure 1 (.pure 2 (.pure 3 (.pure 4 (.pure 5 (.pure 6 (.pure 7 (.A8 8 [] .fin .nil)))))))))
abbrev aMI:OT:=(.pure 0 (.pure 1 (.pure 2 (.pure 3 (.pure 4 (.pure 5 (.pure 6 (.pure 7 (.pure 8 (.pure 9 (.pure 10 (.A8 11 [] .fin .nil))))))))))))
abbrev aMJ:OT:=(.pure 0 (.pure 1 (.pure 2 (.pure 3 (.pure 4 (.pure 5 (.A8 6 [] .fin .nil)))))))
abbrev aMK:OT:=(.pure 0 (.pure 1 (.pure 2 (.pure 3 (.pure 4 (.pure 5 (.pure 6 (.pure 7 (.pure 8 (.pure 9 (.pure 10 (.pure 11 (.pure 12 (.A8 13 [] .fin .nil))))))))))))))
abbrev aC9:OT:=(.pure 0 (.pure 1 (.pure 2 (.pure 3 (.pure 4 (.pure 5 (.pure 6 (.pure 7 .fin))))))))
theorem yQ (d:De) (k:Nat):d.name++(([91]++L9 k)++[93])=Sb d k:=by
 rw [Sb];simp only [qO]
theorem yR {k:Nat} (h:k<10):yS (k:Nat)=L9 k:=by rw [yS,qM ME];rfl
section
variable {ds:List De} (h:BN ds) {k:Nat} (hk:k<ds.length) {eb es:List (List UInt8 × PV)} (hK:aA ds k eb es)
include h hk hK
theorem aA.other (hd:¬ ((ds.getD k Aj).kind=2∨(ds.getD k Aj).kind=3∨(ds.getD k Aj).kind=4)):aA ds (k+1) eb es:=by
 have _:=h
 refine⟨fun i hi NG=>?_,fun i hi NG=>?_,fun i hi O6=>?_⟩
 ·by_cases e:i<k
  ·exact hK.base i e NG
  ·obtain rfl:i=k:=by omega
   exact absurd (.inr NG) hd
 ·by_cases e:i<k
  ·exact hK.size i e NG
  ·obtain rfl:i=k:=by omega
   exact absurd (.inr NG) hd
 ·by_cases e:i<k
  ·exact hK.Ae i e O6
  ·obtain rfl:i=k:=by omega
   exact absurd (.inl O6) hd
theorem aA.aRm (hd:(ds.getD k Aj).kind=2):aA ds (k+1) eb (Ed es (ds.getD k Aj).name (i64 (ds.getD k Aj).n)):=by
 have ES:=h.bT k hk (.inl hd)
 refine⟨fun i hi NG=>?_,fun i hi NG=>?_,fun i hi O6=>?_⟩
 ·by_cases e:i<k
  ·exact hK.base i e NG
  ·obtain rfl:i=k:=by omega
   omega
 ·by_cases e:i<k
  ·rw [DC,qG (ES i e)];exact hK.size i e NG
  ·obtain rfl:i=k:=by omega
   omega
 ·by_cases e:i<k
  ·rw [DC,qG (ES i e)];exact hK.Ae i e O6
  ·obtain rfl:i=k:=by omega
   rw [DC,qM rfl]
theorem aA.aRn (hd:(ds.getD k Aj).kind=3∨(ds.getD k Aj).kind=4) {es':List (List UInt8 × PV)} (h1:BR es' (ds.getD k Aj).name=some (i64 (Fh ds (ds.getD k Aj):Nat))) (h2:∀ b,b ≠ (ds.getD k Aj).name->BR es' b=BR es b) :
  aA ds (k+1) (Ed eb (ds.getD k Aj).name (i64 ((AY ds (ds.take k)).length:Nat))) es':=by
 have ES:=h.bT k hk (.inr hd)
 refine⟨fun i hi NG=>?_,fun i hi NG=>?_,fun i hi O6=>?_⟩
 ·by_cases e:i<k
  ·rw [DC,qG (ES i e)];exact hK.base i e NG
  ·obtain rfl:i=k:=by omega
   rw [DC,qM rfl]
 ·by_cases e:i<k
  ·rw [h2 _ (ES i e)];exact hK.size i e NG
  ·obtain rfl:i=k:=by omega
   exact h1
 ·by_cases e:i<k
  ·rw [h2 _ (ES i e)];exact hK.Ae i e O6
  ·obtain rfl:i=k:=by omega
   omega
theorem aA.find (hd:(ds.getD k Aj).kind=3) (hp:¬ (ds.getD k Aj).Ae=[]):(ds.getD k Aj).Ae ≠ (ds.getD k Aj).name/\BR es (ds.getD k Aj).Ae=some (i64 (Fh ds (ds.getD k Aj):Nat)):=by
 obtain⟨u,hu,O6,hs,h1,h6⟩:=h.size hk hd hp
 obtain⟨hm,hn⟩:=Tn hu
 obtain⟨i,hi,hil,rfl⟩:=eU hm
 have:=hK.Ae i hi O6
 rw [hn] at this
 refine⟨by rw [<- hn];exact h.bT k hk (.inr (.inl hd)) i hi,?_⟩
 rw [this,I9 (.inl hd) hp,hs]
 congr 2
 omega
end
theorem RZ (ds:List De) (k:Nat):(AY ds (ds.take k)).length<=(AY ds ds).length:=by
 have:=rT ds (ds.take k) (ds.drop k)
 rw [kE] at this
 rw [this,qD];omega
theorem aNf (ds:List De) (h:BN ds):A7 cx 34 [.p (JV ds)] ⟨0,[]⟩ fun e H'=>∃ eb es X,x8 ds eb es/\Ii ds X (AY ds ds)/\e=.returned (.ptr 0 0 0)/\H'=UF ds X ((AY ds ds).map Mb.name) eb es []:=by
 have hds:(ds.map De.cells).length=ds.length:=qB ..
 have aPd:=h.len.2
 refine holdsN_of_vc Tryz.func34 rfl rfl rfl ?_
 refine⟨Nat × List (List UInt8 × PV) × List (List UInt8 × PV) × List (List PV) × List (List UInt8),fun x=>nbS ds x.1,fun x=>⟨6,nbL ds x.2.2.2.1 x.2.2.2.2 x.2.1 x.2.2.1⟩,
  fun x=>x.1<=ds.length/\aA ds x.1 x.2.1 x.2.2.1/\Ii ds x.2.2.2.1 (AY ds (ds.take x.1))/\x.2.2.2.2=(AY ds (ds.take x.1)).map Mb.name,fun x=>ds.length - x.1,?_,?_⟩
 ·exact⟨(0,[],[],[],[]),⟨qL _,⟨fun i hi=>by omega,fun i hi=>by omega,fun i hi=>by omega⟩, .nil ds,rfl⟩,AA [] [(0,4),(1,1),(2,2),(3,3)] [(4,2),(5,1)] rfl ⟨MC,rfl,qH (fun n:Nat=>i64 n) hds.symm,rfl,trivial⟩ (sk) rfl⟩
 rintro⟨k,eb,es,X,nm⟩ ⟨k1,hK,hX,F4⟩
 simp only [] at k1 hK hX F4
 have hml:=RZ ds k
 have h8:=h.eight.2
 have aSR:X.length<=8:=by rw [hX.len];omega
 have aRg:nm.length<=8:=by rw [F4,qB];omega
 refine qA (fun m1=>?_) (fun m1=>?_)
 rotate_left
 ·have m1:¬ (k:Int)<(ds.length:Nat):=m1
  have J2:k=ds.length:=by omega
  rw [Ar ME] at hX F4
  subst J2
  refine⟨[4,5],[],[], .returned (.ptr 0 0 0),UF ds X nm eb es [],rfl,sk,?_,eb,es,X,⟨fun i hi e=>hK.base i hi e,fun i hi e=>hK.size i hi e⟩,hX,rfl,by rw [F4]⟩
  exact⟨MCx,MCv,MAv,⟨_,rfl,rfl,rfl,_,rfl,_,_,rfl,rfl,_,_,rfl,⟨_,rfl,by show 0+X.length<=X.length;omega,AB rfl⟩,_,_,rfl,⟨_,rfl,by show 0+nm.length<=(nm.map PV.str).length;simp,AB (by simp)⟩,_,_,rfl,MBt,_,_,rfl,MBW,_,_,rfl,MC,rfl⟩,trivial⟩
 have m1:(k:Int)<(ds.length:Nat):=m1
 have hk:k<ds.length:=by omega
 have AO:=Fj hk
 have Ch:=aEu ds hk
 have aKu:=hK.other h hk
 have hPl:=hK.aRm h hk
 have hNo:=fun hd es'=>hK.aRn h hk (es':=es') hd
 have hFn:=hK.find h hk
 have hBl:=fun hd j=>aNj (p:=ds) (d:=ds.getD k Aj) hd (j:=j)
 have hNl:=h.Sd (Aa Aj hk)
 have hB6:=wo (p:=ds) (d:=ds.getD k Aj) (h.aFl (Aa Aj hk))
 have JN:=fun hd hp=>IK (p:=ds) (d:=ds.getD k Aj) hd hp
 have DF:=(h.ok hk).Ae
 have U3:(AY ds (ds.take k)++EB ds (ds.getD k Aj)).length<=8:=by
  rw [<- Ch];exact kG (RZ ds (k+1)) h8
 rw [qD] at U3
 clear hK
 rw [Fh] at hNo hFn JN
 simp only [Fh] at hBl
 obtain⟨B,hB⟩:∃ B,B=EB ds (ds.getD k Aj):=MX
 rw [<- hB] at Ch hNo hFn JN hB6 U3
 simp only [<- hB] at hBl
 have Bt:¬ ((ds.getD k Aj).kind=3∨(ds.getD k Aj).kind=4)->B=[]:=fun e=>by rw [hB,EB,qG e]
 generalize SL:ds.getD k Aj=d at AO aKu hPl hNo hFn hBl hNl JN DF Bt
 clear hB
 obtain⟨dk,dn,AQ,Ab,AJ,AZ⟩:=d
 simp only [] at aKu hPl hNo hFn hBl hNl JN DF Bt
 refine⟨_,MAR,?_⟩
 refine And.intro (fun q2=>?_) (fun q2=>?_)
 ·have q2:dk=2:=q2
  have aB:=hPl q2
  rw [Bt ME,qU] at Ch
  refine AR aRl MK ?_
  refine⟨_,rfl,?_⟩
  refine MAs ?_
  exact⟨(k+1,eb,Ed es AQ (i64 dn),X,nm),MEm,AA [] [] [] rfl (sk) (sk) rfl,MC5⟩
 have q2:¬ dk=2:=q2
 by_cases q34:dk=3∨dk=4
 rotate_left
 ·have aB:=aKu ME
  rw [Bt q34,qU] at Ch
  refine And.intro (fun q3=>absurd (.inl (show dk=3 from q3)) q34) (fun _=>?_)
  refine And.intro (fun q4=>absurd (.inr (show dk=4 from q4)) q34) (fun _=>?_)
  refine MAs ?_
  exact⟨(k+1,eb,es,X,nm),MEm,AA [] [] [] rfl (sk) (sk) rfl,MC5⟩
 have aIR:=hBl q34
 obtain⟨N,hN⟩:∃ N,N=B.length:=MX
 rw [<- hN] at aIR hNo hFn JN hB6 U3
 have dQ:Ab=[]->N=1:=fun p0=>JN q34 p0
 have aPp:¬ Ab=[]->Ab ≠ AQ/\BR es Ab=some (i64 (N:Nat)):=fun p0=>by
  by_cases e3:dk=3
  ·exact hFn e3 p0
  ·exact absurd (DF e3) p0
 have hAdd:Ab=[]->∀ es',es'=Ed es AQ (i64 1)->aA ds (k+1) (Ed eb AQ (i64 ((AY ds (ds.take k)).length:Nat))) es':=fun p0 es' e=>hNo q34 es' (by rw [e,DC,qM rfl,dQ p0];rfl) fun b hb=>by rw [e,DC,qG hb]
 have aIS:¬ Ab=[]->∀ es',es'=Ed (Ed es AQ (i64 1)) AQ (i64 (N:Nat))->aA ds (k+1) (Ed eb AQ (i64 ((AY ds (ds.take k)).length:Nat))) es':=fun _ es' e=>hNo q34 es' (by rw [e,DC,qM rfl]) fun b hb=>by rw [e,DC,qG hb,DC,qG hb]
 clear aKu hPl hNo hFn hBl JN DF Bt
 have aPq:AQ.length<=10:=hNl
 rw [<- hX.len] at hAdd aIS
 refine And.intro (fun q3=>?_) (fun q3=>?_)
 ·have q3:dk=3:=q3
  exact MBu
 ·have q3:¬ dk=3:=q3
  refine And.intro (fun q4=>?_) (fun q4=>absurd q34 (fun e=>e.elim q3 q4))
  exact MBu
end Go.Proofs.YtkegmchjobphdaaGreatDoor
