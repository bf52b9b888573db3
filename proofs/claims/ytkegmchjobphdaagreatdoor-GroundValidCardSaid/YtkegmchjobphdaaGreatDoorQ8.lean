/- Part 8 of the proof: Fb Fc Dm Ia Ib Ic Id Ie If Ig Ih Ii Ij Wa Wb Wc Wd We Wf Wg Wh Wi Wj Ik Nva Qa Fd Qb Na Nb Nc Nd Qc -/
import Derived.Test.YtkegmchjobphdaaGreatDoorQ7
namespace Go.Proofs.YtkegmchjobphdaaGreatDoor
open Go Y
set_option maxRecDepth 100000
set_option maxHeartbeats 4000000
abbrev TN5:TypeId:=3
abbrev TU:TypeId:=46
abbrev aRG:TypeId:=56
abbrev aO4:TypeId:=72
def iO5 (l:List Int):Ag:=⟨TN5,false, .pu (l.map i64)⟩
def uO (l:List Nat):Ag:=⟨TU,false, .pu (l.map u64)⟩
def ntO (n:SI):Ag:=⟨aRG,false, .bx (n.cells.map .p)⟩
def aHV (x:EU):Ag:=⟨aO4,false, .bx (x.cells.map .p)⟩
def H6 (vars:List Int) (k:Nat):Int:=if k=0 then -1 else vars.getD (k - 1) 0
def LG (n:Int) (vars:List Int):Prop:=∀ i,i<vars.length->H6 vars i<vars.getD i 0/\vars.getD i 0<n
instance (n:Int) (vars:List Int):Decidable (LG n vars):=inferInstanceAs (Decidable (∀ i,i<vars.length->_))
theorem nL {n:Int} {vars:List Int} (h:LG n vars):∀ i,i<vars.length->(i:Int)<=vars.getD i 0
 | 0,hi=>by
  have h1:=(h 0 hi).1
  have h2:H6 vars 0=-1:=rfl
  rw [h2] at h1
  omega
 | i+1,hi=>by
  have h1:=nL h i ME
  have h2:=(h (i+1) hi).1
  rw [H6,qG ME,show i+1 - 1=i by omega] at h2
  omega
theorem Zm {n:Nat} {vars:List Int} (h:LG n vars):vars.length<=n:=by
 rcases kS vars.length with h0 | h0
 ·omega
 ·have h1:=nL h (vars.length - 1) ME
  have h2:=(h (vars.length - 1) ME).2
  omega
theorem Ni {n:Nat} {vars:List Int} (h:LG n vars):∀ v∈vars,0<=v/\v<n:=by
 intro v hv
 obtain⟨i,hi,rfl⟩:=SV 0 hv
 have h1:=nL h i hi
 have h2:=(h i hi).2
 omega
def BX (n:SI):List Int:=n.nodes.map EU.card
def rO (l ps:List Int):List Int:=ps.map fun p=>l.getD p.toNat 0
def Cf (l:List Int):Int:=l.foldl (· * ·) 1
def Hz (c:Int):Prop:=1<=c/\c<=4
theorem JG {l:List Int} {k:Nat} (h:k<l.length):Cf (l.take (k+1))=Cf (l.take k) * l.getD k 0:=by
 rw [FB 0 h,Cf,jR];rfl
theorem aHW:∀ i ≤ 9,(4:Int) ^ i<=262144:=ML
theorem Nh {l:List Int} (h:∀ c∈l,Hz c):∀ k,k<=l.length->1<=Cf (l.take k)/\Cf (l.take k)<=4 ^ k
 | 0,_=>by simp [Cf]
 | k+1,hk=>by
  obtain⟨h1,h2⟩:=Nh h k (by omega)
  obtain⟨c1,c2⟩:=h _ (EK 0 (show k<l.length by omega))
  rw [JG ME,vV]
  refine⟨?_,Int.mul_le_mul h2 c2 ME (by exact_mod_cast qL (4 ^ k))⟩
  have:=Int.mul_le_mul h1 c1 MBc ME
  omega
def aB5 (n:SI) (v:Nat):List Int:=rO (BX n) (n.nodes.getD v Ld).parents
def GR (ps:List Int):Nat:=ps.foldl (fun s p=>s ||| 2 ^ p.toNat) 0
def CF (n:SI):List Nat:=n.nodes.map fun x=>GR x.parents
theorem Zn {l:List Int} {k:Nat} (h:k<l.length):GR (l.take (k+1))=GR (l.take k) ||| 2 ^ (l.getD k 0).toNat:=by
 rw [FB 0 h,GR,jR];rfl
theorem Zo {l:List Int} {n:Nat} (h:∀ p∈l,0<=p/\p<(n:Int)):∀ k,k<=l.length->GR (l.take k)<2 ^ n
 | 0,_=>by simp only [zH];exact Nat.pow_pos (by decide)
 | k+1,hk=>by
  have h1:=Zo h k (by omega)
  obtain⟨c1,c2⟩:=h _ (EK 0 (show k<l.length by omega))
  rw [Zn ME]
  exact zT h1 (jE MBM ME)
theorem aNC {l:List Int} {n:Nat} (h:∀ p∈l,0<=p/\p<(n:Int)):GR l<2 ^ n:=by
 have:=Zo h l.length (qN _)
 rwa [IA (qN _)] at this
theorem aB4 {l:List Int} (h:∀ p∈l,0<=p) {q:Nat}:(GR l).testBit q=true ↔ (q:Int)∈l:=by
 have key:∀ k,k<=l.length->((GR (l.take k)).testBit q=true ↔ (q:Int)∈l.take k):=by
  intro k
  induction k with
  | zero=>intro _;simp [GR]
  | succ k ih=>
   intro hk
   have h1:=h _ (EK 0 (show k<l.length by omega))
   rw [Zn MDV,Xb,T9,kW,ih MBc,FB 0 ME,qa,decide_eq_true_iff]
   simp only [qP]
   constructor
   ·rintro (h | h)
    ·exact .inl h
    ·exact .inr ME
   ·rintro (h | h)
    ·exact .inl h
    ·exact .inr ME
 have:=key l.length (qN _)
 rwa [IA (qN _)] at this
def aCp (n:SI):Prop:=∀ x∈n.nodes,LG n.nodes.length x.parents
theorem aKN {n:SI} (h:aCp n):aHX (CF n):=by
 intro v hv
 have hl:(CF n).length=n.nodes.length:=qB ..
 rw [hl] at hv ⊢
 rw [PR,CF,getD_map Ld 0 hv]
 exact aNC (Ni (h _ (EK Ld hv)))
set_option maxHeartbeats 40000000
def Hq (l:List Int):Int:=l.foldl (·+·) 0
theorem QF {l:List Int} {k:Nat} (h:k<l.length):Hq (l.take (k+1))=Hq (l.take k)+l.getD k 0:=by
 rw [FB 0 h,Hq,jR];rfl
def bS (g c:Int) (r:List Int):Prop:=(r.length:Int)=c/\(∀ w∈r,0<=w/\w<=g)/\Hq r=g
def aFj (n:SI) (v:Nat):Prop:=((n.nodes.getD v Ld).rows.length:Int)=Cf (aB5 n v)/\∀ r∈(n.nodes.getD v Ld).rows,bS n.BS (n.nodes.getD v Ld).card r
structure KU (n:SI):Prop where
 BS:1<=n.BS/\n.BS<=60
 len:1<=n.nodes.length/\n.nodes.length<=8
 aFg:∀ x∈n.nodes,Hz x.card
 aHU:aCp n
 prod:Cf (BX n)<=1024
 aO3:iI (CF n)
 node:∀ v,v<n.nodes.length->aFj n v
noncomputable instance (n:SI):Decidable (KU n):=Classical.propDecidable _
structure aJO (n:SI):Prop where
 nodes:n.nodes.length<=9223372036854775807
 par:∀ x∈n.nodes,x.parents.length<=9223372036854775807
 rows:∀ x∈n.nodes,x.rows.length<=9223372036854775807
 row:∀ x∈n.nodes,∀ r∈x.rows,r.length<=9223372036854775807
theorem Zl {l:List Int} {k:Nat} (h:∀ c∈l.take k,Hz c) (hk:k<=l.length):1<=Cf (l.take k)/\Cf (l.take k)<=4 ^ k:=by
 have:=Nh h k MEM
 rwa [jT,Nat.min_self] at this
theorem Tz {α:Type} {l:List α} {k:Nat} {P:α->Prop} (d:α) (h:k<l.length) (h1:∀ x∈l.take k,P x) (h2:P (l.getD k d)):∀ x∈l.take (k+1),P x:=by
 rw [FB d h]
 intro x hx
 rcases qa.1 hx with hx | hx
 ·exact h1 x hx
 ·simp only [qP] at hx;rw [hx];exact h2
theorem aNB {l ps:List Int} (hc:∀ c∈l,Hz c) (hm:∀ p∈ps,0<=p/\p<(l.length:Int)):∀ c∈rO l ps,Hz c:=by
 intro c h
 obtain⟨p,hp,rfl⟩:=qz.1 h
 have:=hm p hp
 exact hc _ (EK 0 ME)
end Go.Proofs.YtkegmchjobphdaaGreatDoor
namespace Go.Proofs.YtkegmchjobphdaaGreatDoor
open Go Y
set_option maxRecDepth 100000
set_option maxHeartbeats 4000000
theorem aAX (l:List Int):∀ a:Int,l.foldl (· * ·) a=a * Cf l:=by
 induction l with
 | nil=>intro a;show a=a * 1;rw [vP]
 | cons x l ih=>
  intro a
  show l.foldl (· * ·) (a * x)=a * l.foldl (· * ·) (1 * x)
  rw [ih,ih (1 * x),ze,vJ]
theorem aAY (x:Int) (l:List Int):Cf (x::l)=x * Cf l:=by
 show l.foldl (· * ·) (1 * x)=_
 rw [aAX,ze]
theorem Uo:∀ {l:List Int},(∀ c∈l,0<=c)->Cf l=(((l.map Int.toNat).foldr (· * ·) 1:Nat):Int)
 | [],_=>rfl
 | x::l,h=>by
  rw [aAY,Uo fun c hc=>h c (qh _ hc),kI,List.foldr_cons,xS,Int.toNat_of_nonneg (h x (kC ..))]
theorem aDl (l:List Int):∀ a:Int,l.foldl (·+·) a=a+l.sum:=by
 induction l with
 | nil=>intro a;show a=a+0;rw [Int.add_zero]
 | cons x l ih=>
  intro a
  rw [jG,ih,zR,Int.add_assoc]
theorem rR (l:List Int):Hq l=l.sum:=by rw [Hq,aDl,Int.zero_add]
theorem aFh:∀ {l:List Int},(∀ w∈l,0<=w)->0<=l.sum/\∀ w∈l,w<=l.sum
 | [],_=>⟨Int.le_refl _,fun w hw=>by cases hw⟩
 | x::l,h=>by
  obtain⟨h1,h2⟩:=aFh fun w hw=>h w (qh _ hw)
  have hx:=h x (kC ..)
  rw [zR]
  refine⟨by omega,fun w hw=>?_⟩
  rcases qw.1 hw with rfl | hw
  ·omega
  ·have:=h2 w hw;omega
theorem dh {n:Int} {l:List Int} (h:X0 l) (hb:∀ x∈l,0<=x/\x<n):LG n l:=by
 intro i hi
 have hm:=Aa (0:Int) hi
 refine⟨?_,(hb _ hm).2⟩
 rw [H6]
 split
 ·have:=(hb _ hm).1;omega
 ·rename_i h0
  have:=zt.1 h (i - 1) i MBc hi ME
  rw [qK,qW ME,qK,qW hi]
  exact this
def N9 (l:List Mb):List Int:=l.map fun m=>m.d.n
def I8 (g c:Int):List Int:=(List.replicate c.toNat (0:Int)).set 0 g
def Vp (l:List Mb) (ps:List Nat):Nat:=(ps.map fun v=>((l.getD v FO).d.n).toNat).foldr (· * ·) 1
def Vq (g:Int) (l:List Mb) (m:Mb):EU:=⟨m.d.n,EH (Dn l m.d.refs m.idx),if m.d.kind=4 then List.replicate (Vp l (Dn l m.d.refs m.idx)) (I8 g m.d.n) else(EM l m).rows⟩
def SS (ds:List De):SI:=⟨(ds.getD 0 Aj).n,(AY ds ds).map (Vq (ds.getD 0 Aj).n (AY ds ds))⟩
theorem X3 {α:Type} {f:Nat->List α} {k:Nat}:∀ {n:Nat},(∀ x,(f x).length=k)->((List.range n).flatMap f).length=n * k
 | 0,_=>by simp
 | n+1,h=>by
  rw [zD,jY,qD,X3 h]
  simp [h n,Nat.succ_mul]
theorem OA (l:List Mb) (cs:List Cs) (idx:Int):∀ (nodes:List Nat) (vals:List Int),(DU l cs idx nodes vals).length=Vp l nodes
 | [],_=>rfl
 | v::r,vals=>by
  rw [DU,X3 fun x=>OA l cs idx r _];rfl
theorem di {l:List Mb} (hc:∀ m∈l,0<=m.d.n) {ps:List Nat} (hp:∀ i∈ps,i<l.length):Cf (rO (N9 l) (EH ps))=(Vp l ps:Nat):=by
 have e:rO (N9 l) (EH ps)=ps.map fun v=>(l.getD v FO).d.n:=by
  rw [rO,EH,kr]
  refine xO fun i hi=>?_
  show(N9 l).getD ((i:Nat):Int).toNat 0=_
  rw [kL,N9,qK,Ct FO (f:=fun m:Mb=>m.d.n) (hp i hi)];rfl
 rw [e,Uo,Vp,kr];rfl
 intro c Wi
 obtain⟨i,hi,rfl⟩:=qz.1 Wi
 exact hc _ (Aa FO (hp i hi))
theorem aFi {g c:Int} (hg:0<=g) (hc:1<=c):bS g c (I8 g c):=by
 obtain⟨k,hk⟩:∃ k:Nat,c=((k+1:Nat):Int):=⟨c.toNat - 1,by omega⟩
 have e:I8 g c=g::List.replicate k 0:=by
  rw [I8,hk,kL,xk,List.set_cons_zero]
 have hs:∀ k:Nat,(List.replicate k (0:Int)).sum=0:=fun k=>by
  induction k with
  | zero=>rfl
  | succ k ih=>rw [xk,zR,ih];rfl
 refine⟨by rw [e,qR,kz,hk],fun w hw=>?_,?_⟩
 ·rw [e] at hw
  rcases qw.1 hw with rfl | hw
  ·omega
  ·have:=(vR.1 hw).2;omega
 ·rw [rR,e,zR,hs,Int.add_zero]
section
variable {ds:List De} (h:BN ds)
include h
theorem BN.BD:Go.Proofs.YtkegmchjobphdaaGreatDoor.BD ds=(ds.getD 0 Aj).n/\1<=(ds.getD 0 Aj).n/\(ds.getD 0 Aj).n<=60:=by
 have hl:=h.len.1
 have hh:=(L8 h.clean).1
 have h1:=h.one (k:=0) ME
 match ds,hh,h1,hl with
 | d::r,hh,h1,_=>
  have hk:d.kind=1:=by
   unfold Fe at hh
   simp only [] at hh
   split at hh
   ·assumption
   ·cases hh
  refine⟨?_,?_⟩
  ·show(if d.kind=1 then d.n else 0)=_;rw [qM hk];rfl
  ·rw [zH,show(d::r).getD 0 Aj=d from rfl,Dx,qM hk] at h1
   split at h1
   ·cases h1
   ·rename_i hn
    show 1<=d.n/\d.n<=60
    simp only [qy] at hn
    omega
theorem BN.sat {m:Mb} (hm:m∈AY ds ds) (h4:¬ m.d.kind=4):∀ r∈(EM (AY ds ds) m).rows,bS (ds.getD 0 Aj).n m.d.n r:=by
 intro r hr
 obtain⟨j,hj,e,hk,_⟩:=h.member hm
 rw [EM,qG h4,e] at hr
 have h3:(ds.getD j Aj).kind=3:=by rw [e] at h4;omega
 obtain⟨c,hc,rfl⟩:=h.rows hj (.inl h3) hr
 have hI:=(h.case hj (.inl h3) hc).2.1
 rw [KT,qG ME,h.BD.1] at hI
 simp only [qC,qJ,qi] at hI
 obtain⟨i1,i2,i3⟩:=hI
 have hs:=aFh (l:=c.Ah) fun w hw=>i1 w hw
 rw [e]
 exact⟨i2,fun w hw=>⟨i1 w hw,by have:=hs.2 w hw;omega⟩,by rw [rR];exact i3⟩
theorem BN.net:KU (SS ds):=by
 obtain⟨_,g1,g2⟩:=h.BD
 obtain⟨e1,e8⟩:=h.eight
 have hcd:∀ m∈AY ds ds,0<=m.d.n:=fun m hm=>by have:=h.card hm;omega
 have JM:BX (SS ds)=N9 (AY ds ds):=by
  rw [BX,SS,kr];rfl
 have BF:(SS ds).nodes.length=(AY ds ds).length:=by rw [SS,qB]
 have hat:∀ v,v<(AY ds ds).length->(SS ds).nodes.getD v Ld=Vq (ds.getD 0 Aj).n (AY ds ds) ((AY ds ds).getD v FO):=fun v hv=>by
  rw [qK,SS,Ct FO hv];rfl
 refine⟨⟨g1,g2⟩,by rw [BF];exact⟨e1,e8⟩,fun x hx=>?_,fun x hx=>?_,?_,?_,fun v hv=>?_⟩
 ·exact MHY
 ·obtain⟨m,hm,rfl⟩:=qz.1 hx
  refine dh (lK _ _ _) fun y hy=>?_
  obtain⟨i,hi,rfl⟩:=qz.1 hy
  have:=IJ i hi
  rw [BF]
  omega
 ·rw [JM,Uo fun c hc=>by
   obtain⟨m,hm,rfl⟩:=qz.1 hc
   exact hcd m hm]
  have:=h.aMW
  rw [N9,kr]
  exact_mod_cast this
 ·obtain⟨R,hR⟩:=h.KV
  refine⟨R,fun v hv p hp hb=>?_⟩
  rw [CF,qB,BF] at hv hp
  have e:PR (CF (SS ds)) v=GR (EH (Dn (AY ds ds) ((AY ds ds).getD v FO).d.refs ((AY ds ds).getD v FO).idx)):=by
   rw [PR,CF,qK,Ct Ld (by rw [BF];exact hv),hat v hv];rfl
  rw [e,aB4 fun x hx=>by
   obtain⟨i,hi,rfl⟩:=qz.1 hx
   exact kV _] at hb
  obtain⟨i,hi,hip⟩:=qz.1 hb
  obtain rfl:i=p:=by omega
  exact hR v hv i hi
 ·rw [BF] at hv
  have hm:=Aa FO hv
  rw [aFj,aB5,hat v hv,JM]
  generalize (AY ds ds).getD v FO=m at hm
  have II:∀ i∈Dn (AY ds ds) m.d.refs m.idx,i<(AY ds ds).length:=fun i hi=>IJ i hi
  have hc:=h.card hm
  refine⟨?_,fun r hr=>?_⟩
  ·rw [show(Vq (ds.getD 0 Aj).n (AY ds ds) m).parents=EH (Dn (AY ds ds) m.d.refs m.idx) from rfl,di hcd II]
   congr 1
   show(if m.d.kind=4 then _ else _:List (List Int)).length=_
   split
   ·rw [kz]
   ·rename_i h4
    rw [EM,qG h4]
    exact OA ..
  ·have hr:r∈(if m.d.kind=4 then List.replicate (Vp (AY ds ds) (Dn (AY ds ds) m.d.refs m.idx)) (I8 (ds.getD 0 Aj).n m.d.n) else(EM (AY ds ds) m).rows):=hr
   show bS (ds.getD 0 Aj).n m.d.n r
   split at hr
   ·rw [(vR.1 hr).2]
    exact aFi MBc ME
   ·rename_i h4
    exact h.sat hm h4 r hr
end
end Go.Proofs.YtkegmchjobphdaaGreatDoor
namespace Go.Proofs.YtkegmchjobphdaaGreatDoor
open Go Y
set_option maxRecDepth 100000
set_option maxHeartbeats 40000000
theorem aEu (p:List De) {ds:List De} {k:Nat} (hk:k<ds.length):AY p (ds.take (k+1))=AY p (ds.take k)++EB p (ds.getD k Aj):=by
 rw [AU Aj hk,AY,AY,jY]
 show _++(EB p _++[])=_
 rw [qU]
theorem wo {p:List De} {d:De} (h:LH p d.Ae<=6):(EB p d).length<=6:=by
 unfold EB
 split
 ·split
  ·show 1<=6;decide
  ·rw [qB,kT];omega
 ·decide
theorem aBS {α:Type} (f:Nat->α) (n:Nat):(List.range (n+1)).map f=(List.range n).map f++[f n]:=by rw [zD,qX];rfl
abbrev TN:TypeId:=3
theorem aL7 {l:List Nat} {k:Nat} (h:k<l.length):(l.map fun i=>i64 ((i:Nat):Int))[k]?=some (i64 ((l.getD k 0:Nat):Int)):=Ct (f:=fun i:Nat=>i64 ((i:Nat):Int)) 0 h
inductive GnC:Cd->Prop
 | no (n rel val:Int) (r:Rf) (st:List Int):GnC (.mk 0 n rel val r st [])
 | leaf (op n rel val:Int) (r:Rf) (st:List Int) (h0:op ≠ 0) (h7:op ≠ 7) (h8:op ≠ 8) (h9:op ≠ 9) (hr:-100000<=r.n/\r.n<=100000) (hs:st.length<=100):GnC (.mk op n rel val r st [])
 | neg (n rel val:Int) (r:Rf) (st:List Int) (a:Cd) (ha:GnC a):GnC (.mk 7 n rel val r st [a])
 | OE (n rel val:Int) (r:Rf) (st:List Int) (a b:Cd) (ha:GnC a) (hb:GnC b):GnC (.mk 8 n rel val r st [a,b])
 | Sc (n rel val:Int) (r:Rf) (st:List Int) (a b:Cd) (ha:GnC a) (hb:GnC b):GnC (.mk 9 n rel val r st [a,b])
theorem nT {l:List Int} {k:Nat} (h:k<l.length):(l.map i64)[k]?=some (i64 (l.getD k 0)):=Ct 0 h
structure GnS (cs:List Cs):Prop where
 len:cs.length<=100
 cond:∀ c∈cs,GnC c.cond
 Ah:∀ c∈cs,c.Ah.length<=100
theorem aEt (f:Nat->List (List Int)) (n:Nat):(List.range (n+1)).flatMap f=(List.range n).flatMap f++f n:=by
 rw [zD,jY]
 show _++(f n++[])=_
 rw [qU]
theorem VS {f:Nat->List (List Int)} {B:Nat} (h:∀ x,(f x).length<=B):∀ n,((List.range n).flatMap f).length<=n * B
 | 0=>by simp
 | n+1=>by
  rw [aEt,qD]
  have h1:=VS h n
  have h2:=h n
  rw [Nat.add_mul];omega
theorem QT (l:List Mb) (cs:List Cs) (idx:Int):∀ (nodes:List Nat) (vals:List Int),(∀ i∈nodes,(l.getD i FO).d.n<=4)->(DU l cs idx nodes vals).length<=4 ^ nodes.length
 | [],_,_=>by rw [DU];show 1<=4 ^ 0;decide
 | v::r,vals,h=>by
  rw [DU]
  have h4:=h v (kC ..)
  have h5:=VS (f:=fun x=>DU l cs idx r (vals.set v (x:Nat))) (B:=4 ^ r.length) (fun x=>QT l cs idx r _ fun i hi=>h i (qh _ hi)) ((l.getD v FO).d.n).toNat
  rw [qR,jb]
  exact kG h5 (by rw [Nat.mul_comm];exact xq _ ME)
abbrev TGr:TypeId:=51
def grO (g:Gr):Ag:=⟨TGr,false, .bx (g.cells.map .p)⟩
def lJ:List (List UInt8)->List UInt8->Nat->Option Nat
 | [],_,_=>none
 | x::r,nm,k=>if x=nm then some k else lJ r nm (k+1)
def Xy (l:List (List UInt8)) (nm:List UInt8):List PV:=match lJ l nm 0 with
 | some k=>[i64 (k:Nat),i64 0]
 | none=>[i64 0,i64 4]
theorem Xx {l:List (List UInt8)} {k:Nat} (h:k<l.length):(l.map PV.str)[k]?=some (.str (l.getD k [])):=Ct [] h
deriving instance DecidableEq for Nd, Ut, Gr
abbrev TNd:TypeId:=72
def ndO (x:Nd):Ag:=⟨TNd,false, .bx (x.cells.map .p)⟩
theorem JH (l:List Nat):EZ l=ints (EH l):=by
 show PV.Dh _=PV.Dh _
 rw [EH,kr];rfl
structure NdZ (x:Nd):Prop where
 Jp:x.Jp.length<=1000000
 rows:x.rows.length<=1000000
 row:∀ r∈x.rows,r.length<=1000000
abbrev aO6:TypeId:=49
abbrev Zt (g:Gr):List PV:=[i64 g.BS, .Ai 3 (g.nodes.map Nd.cells), .int .u64 g.dec, .Ai 2 (g.JR.map Ut.cells)]
def Q9 (g:Gr):Ag:=⟨aO6,false, .bx ((Zt g).map .p)⟩
structure GrZ (g:Gr):Prop where
 names:g.names.length<=1000000
 nodes:g.nodes.length<=1000000
 node:∀ x∈g.nodes,NdZ x
 JR:g.JR.length<=1000000
 aSQ:∀ x∈g.JR,x.vars.length<=1000000/\x.w.length<=1000000
def H5:Nd:=⟨0,[],[]⟩
def ut0:Ut:=⟨[],[]⟩
theorem Oq {l:List Nd} {k:Nat} (h:k<l.length):(l.map Nd.cells)[k]?=some (l.getD k H5).cells:=Ct H5 h
theorem aBR {l:List Ut} {k:Nat} (h:k<l.length):(l.map Ut.cells)[k]?=some (l.getD k ut0).cells:=Ct ut0 h
end Go.Proofs.YtkegmchjobphdaaGreatDoor
namespace Go.Proofs.YtkegmchjobphdaaGreatDoor
open Go Y
set_option maxRecDepth 100000
set_option maxHeartbeats 40000000
theorem NA.gn {l:List De} {x:De} (hr:∀ r∈x.refs,-100000<=r.n/\r.n<=100000) {c:Cd} (h:NA l x c):GnC c:=by
 induction h with
 | no n rel val r st=>exact .no ..
 | leaf op n rel val r st rW hrr h3 Lc LJ hv=>exact .leaf _ _ _ _ _ _ (by omega) MI8 MDV MBc (hr r hrr) ME
 | neg n rel val r st a ha ia=>exact .neg _ _ _ _ _ _ ia
 | OE n rel val r st a b ha hb ia ib=>exact .OE _ _ _ _ _ _ _ ia ib
 | Sc n rel val r st a b ha hb ia ib=>exact .Sc _ _ _ _ _ _ _ ia ib
section
variable {ds:List De} (h:BN ds)
include h
end
abbrev nN (l:List Mb) (m:Mb):List PV:=[i64 m.d.n,EZ (Dn l m.d.refs m.idx),if m.d.kind=4 then .Ad else F5 (DU l m.d.cases m.idx (Dn l m.d.refs m.idx) (DV l.length))]
theorem aHd (l:List Mb) (m:Mb):BL (nN l m) (EM l m).cells:=by
 refine⟨_,_,rfl,rfl,_,_,rfl, .refl _,_,_,rfl,?_,rfl⟩
 show Be (if m.d.kind=4 then .Ad else _) (F5 (if m.d.kind=4 then [] else _))
 split
 ·exact .inr (.inl rfl)
 ·exact .refl _
theorem aBQ (ds:List De):BL [strs ((AY ds ds).map Mb.name),i64 (ds.getD 0 Aj).n, .Ai 3 ((AY ds ds).map (nN (AY ds ds))), .int .u64 (Ho (AY ds ds) 0:Nat), .Ai 2 ((ds.filter fun d=>decide (d.kind=5)).map fun d=>(G5 (AY ds ds) d).cells)] (Ap ds).cells:=by
 refine⟨_,_,rfl, .refl _,_,_,rfl, .refl _,_,_,rfl,?_,_,_,rfl, .refl _,_,_,rfl,?_,rfl⟩
 ·show Be (.Ai 3 _) (.Ai 3 (((AY ds ds).map (EM (AY ds ds))).map Nd.cells))
  have key:∀ l:List Mb,BZ (l.map (nN (AY ds ds))) ((l.map (EM (AY ds ds))).map Nd.cells):=by
   intro l
   induction l with
   | nil=>rfl
   | cons m l ih=>exact⟨_,_,rfl,aHd _ m,ih⟩
  exact⟨_,rfl,key _⟩
 ·show Be _ (.Ai 2 (((ds.filter fun d=>decide (d.kind=5)).map (G5 (AY ds ds))).map Ut.cells))
  rw [kr];exact .refl _
def nO (l:List (List PV)):Ag:=⟨TNd,false, .GN l⟩
def nP (l:List Ut):Ag:=⟨78,false, .GN (l.map Ut.cells)⟩
def zgO:Ag:=⟨TGr,false, .bx [.p .Ad, .p (i64 0), .p .Ad, .p (.int .u64 0), .p .Ad]⟩
end Go.Proofs.YtkegmchjobphdaaGreatDoor
namespace Go.Proofs.YtkegmchjobphdaaGreatDoor
open Go Y
set_option maxRecDepth 100000
set_option maxHeartbeats 40000000
abbrev aRN:TypeId:=240
def zsO:Ag:=⟨aRN,false, .bx [.p (.str []), .p (i64 0), .p (.str []), .p (i64 0), .p (i64 0)]⟩
def fnd (l:List De) (nm:List UInt8):Option Sy:=if nm=[] then none else(Di l nm).map fun i=>KX (l.take i) (l.getD i Aj)
def dO (l:List De) (nm:List UInt8):List PV:=match fnd l nm with
 | some s=>[.agg s.cells, .bool true]
 | none=>[.agg [.str [],i64 0, .str [],i64 0,i64 0], .bool false]
theorem UE {l:List De} {nm:List UInt8} {d:De} (hn:nm ≠ []) (h:EC l nm=some d):∃ a,fnd l nm=some (KX a d):=by
 rw [EC] at h
 rw [fnd,qG hn]
 cases hi:Di l nm with
 | none=>rw [hi] at h;cases h
 | some i=>
  rw [hi] at h
  injection h with h
  exact⟨l.take i,by rw [<- h];rfl⟩
theorem UD {l:List De} {nm:List UInt8} (h:EC l nm=none):fnd l nm=none:=by
 rw [EC] at h
 rw [fnd]
 cases hi:Di l nm with
 | none=>split <;> rfl
 | some i=>rw [hi] at h;cases h
theorem wz {l:List De} {nm:List UInt8} (hn:nm ≠ []) (h:Pure cx 127 [Dw l, .str nm] (·=.ret (dO l nm))):Pure cx 131 [Dw l, .str nm] (·=.ret [i64 (DL l nm)]):=by
 rw [dO] at h
 cases hv:EC l nm with
 | none=>
  have hs:DL l nm=0:=by rw [DL,hv]
  rw [hs]
  rw [UD hv] at h
  refine pure_of_vc Tryz.func131 rfl rfl rfl ?_
  refine h.eq rfl ?_
  exact MAl
 | some d=>
  obtain⟨a,ha⟩:=UE hn hv
  have hs:DL l nm=if d.kind=2 then d.n else 0:=by rw [DL,hv]
  rw [hs]
  rw [ha,KX] at h
  by_cases k2:d.kind=2
  ·rw [qM k2]
   rw [qM k2] at h
   refine pure_of_vc Tryz.func131 rfl rfl rfl ?_
   refine h.eq rfl ?_
   refine MJ ?_
   exact MAl
  ·rw [qG k2]
   rw [qG k2] at h
   refine pure_of_vc Tryz.func131 rfl rfl rfl ?_
   refine h.eq rfl ?_
   refine And.intro (fun h=>absurd (show d.kind=2 from h) k2) (fun _=>?_)
   exact MAl
abbrev aRO:OT:=(.pure 0 (.pure 1 (.pure 2 (.A8 3 [1] (.pure 4 (.A8 5 [] .fin .nil)) .nil))))
abbrev aPB:OT:=(.pure 0 (.pure 1 (.pure 2 (.pure 3 (.pure 4 (.A8 5 [] (.pure 6 (.A8 7 [] .fin .nil)) .nil))))))
theorem iM:∀ (n:Nat) (l:List De) (nm:List UInt8),l.length<=n->l.length<=1000->(∀ d∈l,bH d)->Pure cx 127 [Dw l, .str nm] (·=.ret (dO l nm))
 | n,l,nm,hn,hl,DF=>by
  have IH:∀ m,m<l.length->∀ p,p ≠ []->Pure cx 131 [Dw (l.take m), .str p] (·=.ret [i64 (DL (l.take m) p)]):=fun m hm p hp=>by
   match n,hn with
   | 0,hn=>omega
   | n+1,hn=>exact wz hp (iM n (l.take m) p (by rw [qj];omega) MEM fun d hd=>DF d (kQ hd))
  have hm:(l.map De.cells).length=l.length:=qB ..
  refine pure_of_vc Tryz.func127 rfl rfl rfl ?_
  refine⟨Nat,fun k=>[(0, .p (Dw l)),(1, .p (.str nm)),(4, .ptr 0 0 0),(6, .p (i64 k))],fun _=>⟨1,[(0,zsO)]⟩,fun k=>k<=l.length/\∀ x∈l.take k,¬ (x.name=nm/\¬ nm=[]),fun k=>l.length - k,?_,?_⟩
  ·exact⟨0,MDQ,AA [] [] [] rfl (sk) (sk) rfl⟩
  rintro k ⟨k1,k2⟩
  refine qA (fun m1=>?_) (fun m1=>?_)
  rotate_left
  ·have m1:¬ (k:Int)<((l.map De.cells).length:Nat):=m1
   rw [hm] at m1
   rw [Ar ME] at k2
   have hR:fnd l nm=none:=by
    rw [fnd]
    split
    ·rfl
    ·rename_i h0
     rw [Uq.2 fun x hx e=>k2 x hx ⟨e,h0⟩];rfl
   exact Gy (.agg [.str [],i64 0, .str [],i64 0,i64 0]) (.bool false) rfl rfl rfl (by rw [dO,hR])
  have m1:(k:Int)<((l.map De.cells).length:Nat):=m1
  rw [hm] at m1
  have hk:k<l.length:=by omega
  have AO:=Fj hk
  have ho:=DF _ (Aa Aj hk)
  have hF:∀ nm',(l.getD k Aj).name=nm'->nm'=nm->¬ nm=[]->dO l nm=[.agg (KX (l.take k) (l.getD k Aj)).cells, .bool true]:=fun nm' e1 e2 h0=>by
   have hi:Di l nm=some k:=by
    have ht:l=l.take k++(l.getD k Aj::l.drop (k+1)):=by rw [<- EO Aj hk,kE]
    have hz:Di (l.take k) nm=none:=Uq.2 fun x hx e=>k2 x hx ⟨e,h0⟩
    rw [ht,Tp,hz]
    show(Di (l.getD k Aj::l.drop (k+1)) nm).map (·+(l.take k).length)=some k
    rw [Di,qM (e1.trans e2),qj]
    show some (0+min k l.length)=some k
    rw [ql,xG ME]
   rw [dO,fnd,qG h0,hi];rfl
  have Ch:(¬ ((l.getD k Aj).name=nm/\¬ nm=[]))->∀ x∈l.take (k+1),¬ (x.name=nm/\¬ nm=[]):=fun hx x dP=>by
   rw [AU Aj hk] at dP
   rcases qa.1 dP with dP | dP
   ·exact k2 x dP
   ·rw [qP.1 dP];exact hx
  have ih:=IH k hk
  generalize l.getD k Aj=d at AO ho hF Ch
  obtain⟨dk,dn,AQ,Ab,AJ,AZ⟩:=d
  have WJ:=ho.kind
  have Iy:=ho.bare
  have hname:=ho.name
  have Lp:=ho.Ae
  simp only [] at WJ Iy hname Lp hF Ch
  refine⟨_,MAR,?_⟩
  refine And.intro (fun e1=>?_) (fun e1=>?_)
  rotate_left
  ·have e1:¬ AQ=nm:=e1
   refine MAs ?_
   exact⟨k+1,⟨by omega,Ch fun h=>e1 h.1⟩,AA [] [] [] rfl (sk) (sk) rfl,MDE⟩
  have e1:AQ=nm:=e1
  rcases WJ with rfl | rfl | rfl | rfl | rfl
  ·refine And.intro (fun h=>absurd (show(1:Int)=2 from h) ML) (fun _=>?_)
   refine And.intro (fun h=>absurd (show(1:Int)=3 from h) ML) (fun _=>?_)
   refine And.intro (fun h=>absurd (show(1:Int)=4 from h) ML) (fun _=>?_)
   refine MAs ?_
   exact⟨k+1,⟨by omega,Ch fun h=>h.2 (e1.symm.trans (Iy (.inl rfl)))⟩,AA [] [] [] rfl (sk) (sk) rfl,MDE⟩
  ·have h0:¬ nm=[]:=fun e=>hname (.inl rfl) (e1.trans e)
   have hR:=hF AQ rfl e1 h0
   rw [KX,qM rfl] at hR
   have hp:=Lp ML
   subst e1
   subst hp
   refine MJ ?_
   refine MJ ?_
   refine AR aRO MK ?_
   refine⟨sk,?_⟩
   exact Gy (.agg (Sy.cells (Sy.mk AQ 2 [] 0 dn))) (.bool true) rfl rfl rfl MJD
  ·have h0:¬ nm=[]:=fun e=>hname (.inr (.inl rfl)) (e1.trans e)
   have hR:=hF AQ rfl e1 h0
   rw [KX,qG (show ¬ (3:Int)=2 from ML)] at hR
   subst e1
   refine MDI ?_
   refine MJ ?_
   refine MDI ?_
   refine And.intro (fun p0=>?_) (fun p0=>?_)
   ·have p0:Ab=[]:=p0
    simp only [qM p0] at hR
    exact Gy (.agg (Sy.cells (Sy.mk AQ 3 Ab dn 1))) (.bool true) rfl rfl rfl MJD
   ·have p0:¬ Ab=[]:=p0
    simp only [qG p0] at hR
    have hS:=ih Ab p0
    have ea:[Dw (l.take k),PV.str Ab]=[PV.Ai 6 ((l.map De.cells).take ((k:Nat):Int).toNat), .str Ab]:=by show [PV.Ai 6 ((l.take k).map De.cells),_]=_;rw [jJ];rfl
    rw [ea] at hS
    generalize DL (l.take k) Ab=sz at hS hR
    refine AR aPB MK ?_
    refine⟨by show(0:Int)<=(k:Nat)/\((k:Nat):Int)<=((l.map De.cells).length:Nat);rw [hm];omega,?_⟩
    refine hS.eq rfl ?_
    exact Gy (.agg (Sy.cells (Sy.mk AQ 3 Ab dn sz))) (.bool true) rfl rfl rfl MJD
  ·have h0:¬ nm=[]:=fun e=>hname (.inr (.inr rfl)) (e1.trans e)
   have hR:=hF AQ rfl e1 h0
   have hp:=Lp ML
   rw [KX,qG (show ¬ (4:Int)=2 from ML)] at hR
   simp only [qM hp] at hR
   subst e1
   refine MD8 ?_
   refine MGE ?_
   refine MJ ?_
   refine MD8 ?_
   refine And.intro (fun _=>?_) (fun h=>absurd hp h)
   exact Gy (.agg (Sy.cells (Sy.mk AQ 4 Ab dn 1))) (.bool true) rfl rfl rfl MJD
  ·refine And.intro (fun h=>absurd (show(5:Int)=2 from h) ML) (fun _=>?_)
   refine And.intro (fun h=>absurd (show(5:Int)=3 from h) ML) (fun _=>?_)
   refine And.intro (fun h=>absurd (show(5:Int)=4 from h) ML) (fun _=>?_)
   refine MAs ?_
   exact⟨k+1,⟨by omega,Ch fun h=>h.2 (e1.symm.trans (Iy (.inr rfl)))⟩,AA [] [] [] rfl (sk) (sk) rfl,MDE⟩
theorem Xg (l:List De) (nm:List UInt8) (hl:l.length<=1000) (DF:∀ d∈l,bH d):Pure cx 127 [Dw l, .str nm] (·=.ret (dO l nm)):=iM _ l nm (qN _) hl DF
theorem nU (l:List De) {nm:List UInt8} (hn:nm ≠ []) (hl:l.length<=1000) (DF:∀ d∈l,bH d):Pure cx 131 [Dw l, .str nm] (·=.ret [i64 (DL l nm)]):=wz hn (Xg l nm hl DF)
theorem aNP (d:De) (r:Rf):Pure cx 216 [d.pv,r.pv] (·=.ret [.bool (O7 d r)]):=by
 obtain⟨R,hR⟩:∃ R,R=O7 d r:=MX
 rw [<- hR]
 rw [O7] at hR
 refine pure_of_vc Tryz.func216 rfl rfl rfl ?_
 refine qA (fun h1=>?_) (fun h1=>?_)
 rotate_left
 ·have h1:¬ d.kind=3:=h1
  exact AL _ rfl rfl (Af (by rw [hR,qF h1];rfl))
 have h1:d.kind=3:=h1
 rw [qE h1] at hR
 refine qA (fun h2=>?_) (fun h2=>?_)
 ·have h2:d.Ae=[]:=h2
  exact AL _ rfl rfl (Af (by rw [hR,qF (show ¬ ¬ d.Ae=[] from fun h=>h h2)];rfl))
 have h2:¬ d.Ae=[]:=h2
 rw [qE h2] at hR
 refine qA (fun h3=>?_) (fun h3=>?_)
 rotate_left
 ·have h3:¬ r.name=d.name:=h3
  exact AL _ rfl rfl (Af (by rw [hR,qF h3];rfl))
 have h3:r.name=d.name:=h3
 rw [qE h3] at hR
 refine qA (fun h4=>?_) (fun h4=>?_)
 rotate_left
 ·have h4:¬ r.mode=1:=h4
  exact AL _ rfl rfl (Af (by rw [hR,qF h4];rfl))
 have h4:r.mode=1:=h4
 rw [qE h4] at hR
 refine qA (fun h5=>?_) (fun h5=>?_)
 rotate_left
 ·have h5:¬ r.Ae=d.Ae:=h5
  exact AL _ rfl rfl (Af (by rw [hR,qF h5];rfl))
 have h5:r.Ae=d.Ae:=h5
 rw [qE h5] at hR
 refine qA (fun h6=>?_) (fun h6=>?_)
 ·have h6:1<=r.n:=h6
  exact AL _ rfl rfl (Af (by rw [hR,qE h6];rfl))
 ·have h6:¬ 1<=r.n:=h6
  exact AL _ rfl rfl (Af (by rw [hR,qF h6];rfl))
def skS (l:List De) (d:De) (r:Rf):Option Sy:=match fnd l r.name with
 | some s=>some s
 | none=>if O7 d r then some ⟨d.name,d.kind,d.Ae,d.n,DL l d.Ae⟩ else none
def skV (o:Option Sy):List PV:=match o with
 | some s=>[.agg s.cells, .bool true]
 | none=>[.agg [.str [],i64 0, .str [],i64 0,i64 0], .bool false]
abbrev aRM:OT:=(.pure 0 (.pure 1 (.pure 2 (.pure 3 (.pure 4 (.pure 5 (.pure 6 (.pure 7 (.pure 8 (.pure 9 (.pure 10 (.A8 11 [7,5,3,1] (.pure 12 (.A8 13 [] (.pure 14 .fin) .nil)) .nil))))))))))))
theorem aCw (l:List De) (d:De) (r:Rf) (hl:l.length<=1000) (DF:∀ d∈l,bH d):Pure cx 181 [Dw l,d.pv,r.pv] (·=.ret (skV (skS l d r))):=by
 have hF:=Xg l r.name hl DF
 have hO:=aNP d r
 rw [dO] at hF
 rw [skS]
 cases hf:fnd l r.name with
 | some s=>
  rw [hf] at hF
  simp only [] at hF
  show Pure cx _ _ (·=.ret [.agg s.cells, .bool true])
  obtain⟨s1,s2,s3,s4,s5⟩:=s
  obtain⟨dk,dn,AQ,Ab,AJ,AZ⟩:=d
  refine pure_of_vc Tryz.func181 rfl rfl rfl ?_
  refine hF.eq rfl ?_
  exact Gy (.agg (Sy.cells ⟨s1,s2,s3,s4,s5⟩)) (.bool true) rfl rfl rfl rfl
 | none=>
  rw [hf] at hF
  simp only [] at hF
  by_cases ho:O7 d r=true
  ·rw [ho] at hO
   have hp:=(Oo.1 ho).2.1
   have hS:=nU l hp hl DF
   simp only [qM ho,skV]
   generalize DL l d.Ae=sz at hS
   obtain⟨dk,dn,AQ,Ab,AJ,AZ⟩:=d
   refine pure_of_vc Tryz.func181 rfl rfl rfl ?_
   refine hF.eq rfl ?_
   refine hO.eq rfl ?_
   refine AR aRM MK ?_
   refine hS.eq rfl ?_
   refine⟨sk,?_⟩
   exact Gy (.agg (Sy.cells ⟨AQ,dk,Ab,dn,sz⟩)) (.bool true) rfl rfl rfl rfl
  ·simp only [qG ho,skV]
   rw [qQ] at ho
   rw [ho] at hO
   obtain⟨dk,dn,AQ,Ab,AJ,AZ⟩:=d
   refine pure_of_vc Tryz.func181 rfl rfl rfl ?_
   refine hF.eq rfl ?_
   refine hO.eq rfl ?_
   exact Gy (.agg [.str [],i64 0, .str [],i64 0,i64 0]) (.bool false) rfl rfl rfl rfl
abbrev aPA:OT:=(.pure 0 (.pure 1 (.pure 2 (.pure 3 (.pure 4 (.A8 5 [1] (.pure 6 .fin) .nil))))))
theorem Xe (l:List De) (d:De) (r:Rf) (hn:r.name ≠ []) (hl:l.length<=1000) (DF:∀ d∈l,bH d):Pure cx 128 [Dw l,d.pv,r.pv] (·=.ret [i64 (IE l d r)]):=by
 have hK:=aCw l d r hl DF
 obtain⟨R,hR⟩:∃ R,R=IE l d r:=MX
 rw [<- hR]
 rw [IE] at hR
 rw [skS] at hK
 cases hv:EC l r.name with
 | none=>
  rw [UD hv] at hK
  rw [hv] at hR
  simp only [] at hR hK
  by_cases ho:O7 d r=true
  ·rw [qM ho] at hR hK
   obtain⟨o1,o2,o3⟩:=Oo.1 ho
   have o4:r.mode=1:=by rw [o3]
   have o5:r.Ae=d.Ae:=by rw [o3]
   generalize DL l d.Ae=sz at hK
   rw [skV] at hK
   try simp only [] at hK
   obtain⟨dk,dn,AQ,Ab,AJ,AZ⟩:=d
   obtain⟨rn,rm,rp,ri⟩:=r
   simp only [] at o1 o2 o4 o5
   subst o1
   subst o4
   refine MHj ?_
   refine hK.eq rfl ?_
   refine MDI ?_
   refine And.intro (fun h=>absurd h o2) (fun _=>?_)
   refine And.intro (fun h=>absurd (show(1:Int)=0 from h) ML) (fun _=>?_)
   refine And.intro (fun h=>absurd (show(1:Int)=2 from h) ML) (fun _=>?_)
   refine MJ ?_
   refine MJ ?_
   refine MJ ?_
   refine And.intro (fun _=>?_) (fun h=>absurd o5 h)
   exact Mx
  ·rw [qG ho] at hR hK
   rw [skV] at hK
   try simp only [] at hK
   obtain⟨dk,dn,AQ,Ab,AJ,AZ⟩:=d
   refine MHj ?_
   refine hK.eq rfl ?_
   exact Mx
 | some t=>
  obtain⟨a,ha⟩:=UE hn hv
  have ht:=DF t (Tn hv).1
  rw [ha] at hK
  rw [hv] at hR
  simp only [] at hR hK
  rw [skV,KX] at hK
  rw [PT] at hR
  by_cases k2:t.kind=2
  ·rw [qM k2] at hK
   simp only [qM k2] at hR
   try simp only [] at hK
   obtain⟨dk,dn,AQ,Ab,AJ,AZ⟩:=d
   refine MHj ?_
   refine hK.eq rfl ?_
   refine MJ ?_
   exact Mx
  have hS:=fun hp=>nU l (nm:=t.Ae) hp hl DF
  rw [qG k2] at hK
  simp only [qG k2] at hR
  try simp only [] at hK
  generalize (if t.Ae=[] then 1 else DL a t.Ae)=sz at hK
  obtain⟨dk,dn,AQ,Ab,AJ,AZ⟩:=d
  obtain⟨rn,rm,rp,ri⟩:=r
  obtain⟨tk,tn,tnm,LA,trs,tcs⟩:=t
  simp only [] at hR hK k2 hS
  clear hv ha ht
  refine MHj ?_
  refine hK.eq rfl ?_
  refine And.intro (fun h=>absurd h k2) (fun _=>?_)
  refine qA (fun p0=>?_) (fun p0=>?_)
  ·have p0:LA=[]:=p0
   rw [qM p0] at hR
   refine qA (fun m0=>?_) (fun m0=>?_)
   ·have m0:rm=0:=m0
    rw [qF (show ¬ ¬ rm=0 from fun h=>h m0)] at hR
    exact Mx
   ·have m0:¬ rm=0:=m0
    rw [qE m0] at hR
    exact Mx
  have p0:¬ LA=[]:=p0
  rw [qG p0] at hR
  refine qA (fun m0=>?_) (fun m0=>?_)
  ·have m0:rm=0:=m0
   rw [qM m0] at hR
   exact Mx
  have m0:¬ rm=0:=m0
  rw [qG m0] at hR
  refine qA (fun m2=>?_) (fun m2=>?_)
  ·have m2:rm=2:=m2
   rw [qM m2] at hR
   refine AR aPA MK ?_
   refine(hS p0).eq rfl ?_
   refine⟨sk,?_⟩
   refine qA (fun g1=>?_) (fun g1=>?_)
   ·have g1:DL l LA<=ri:=g1
    rw [qE g1] at hR
    exact Mx
   ·have g1:¬ DL l LA<=ri:=g1
    rw [qF g1] at hR
    exact Mx
  have m2:¬ rm=2:=m2
  rw [qG m2] at hR
  refine qA (fun m1=>?_) (fun m1=>?_)
  ·have m1:rm=1:=m1
   rw [qM m1] at hR
   refine qA (fun q1=>?_) (fun q1=>?_)
   rotate_left
   ·have q1:¬ dk=3:=q1
    rw [qE (show ¬ (dk=3/\Ab=LA/\rp=LA) from fun h=>q1 h.1)] at hR
    exact Mx
   have q1:dk=3:=q1
   refine qA (fun q2=>?_) (fun q2=>?_)
   rotate_left
   ·have q2:¬ Ab=LA:=q2
    rw [qE (show ¬ (dk=3/\Ab=LA/\rp=LA) from fun h=>q2 h.2.1)] at hR
    exact Mx
   have q2:Ab=LA:=q2
   refine qA (fun q3=>?_) (fun q3=>?_)
   ·have q3:rp=LA:=q3
    rw [qF (show ¬ ¬ (dk=3/\Ab=LA/\rp=LA) from fun h=>h ⟨q1,q2,q3⟩)] at hR
    exact Mx
   ·have q3:¬ rp=LA:=q3
    rw [qE (show ¬ (dk=3/\Ab=LA/\rp=LA) from fun h=>q3 h.2.2)] at hR
    exact Mx
  ·have m1:¬ rm=1:=m1
   rw [qG m1] at hR
   exact Mx
abbrev wy:OT:=(.pure 0 (.pure 1 (.pure 2 (.pure 3 (.pure 4 (.pure 5 (.pure 6 (.pure 7 (.pure 8 (.pure 9 (.pure 10 (.pure 11 .fin))))))))))))
theorem aEw (l:List De) (d:De) {op n rel val:Int} {r:Rf} {st:List Int} {ar:List Cd} (hn:r.name ≠ []) (LJ:op=5->1<=st.length) (Ta:st.length<=100) (RU:d.refs.length<=100) (hl:l.length<=1000) (DF:∀ d∈l,bH d):Pure cx 182 [Dw l,d.pv,(Cd.mk op n rel val r st ar).pv] (·=.ret [i64 (G6 l d op n val r st)]):=by
 obtain⟨R,hR⟩:∃ R,R=G6 l d op n val r st:=MX
 rw [<- hR]
 have hK:=aCw l d r hl DF
 obtain⟨dk,dn,AQ,Ab,AJ,AZ⟩:=d
 have RU:AJ.length<=100:=RU
 rw [G6,Sj] at hR
 rw [skS] at hK
 cases hv:EC l r.name with
 | none=>
  rw [UD hv] at hK
  rw [hv] at hR
  simp only [] at hR hK
  by_cases ho:O7 ⟨dk,dn,AQ,Ab,AJ,AZ⟩ r=true
  ·have hk3:dk=3:=(Oo.1 ho).1
   have O6:¬ dk=2:=by omega
   simp only [qM ho] at hR hK
   rw [skV] at hK
   try simp only [] at hK
   obtain⟨kk,V6⟩:∃ kk,kk=dn:=MX
   rw [<- V6] at hR
   generalize DL l Ab=sz at hK
   clear hv ho
   subst V6
   refine MHi ?_
   refine⟨Nat × Bool,fun x=>[(0, .p (Dw l)),(4, .ptr 0 0 0),(5, .ptr 1 0 0),(7, .p (.bool x.2)),(8, .p (i64 x.1))],fun _=>⟨2,[(1,QC (.mk op n rel val r st ar)),(0,Bl ⟨dk,kk,AQ,Ab,AJ,AZ⟩)]⟩,fun x=>x.1<=AJ.length/\x.2=decide (r∈AJ.take x.1),fun x=>AJ.length - x.1,?_,?_⟩
   ·exact MAg
   exact MF2
  ·simp only [qG ho] at hR hK
   rw [skV] at hK
   try simp only [] at hK
   clear hv ho
   refine MHi ?_
   refine⟨Nat × Bool,fun x=>[(0, .p (Dw l)),(4, .ptr 0 0 0),(5, .ptr 1 0 0),(7, .p (.bool x.2)),(8, .p (i64 x.1))],fun _=>⟨2,[(1,QC (.mk op n rel val r st ar)),(0,Bl ⟨dk,dn,AQ,Ab,AJ,AZ⟩)]⟩,fun x=>x.1<=AJ.length/\x.2=decide (r∈AJ.take x.1),fun x=>AJ.length - x.1,?_,?_⟩
   ·exact MAg
   rintro⟨k,b⟩ ⟨k1,k2⟩
   simp only [] at k1 k2
   refine qA (fun m1=>?_) (fun m1=>?_)
   ·exact MBY
   have m1:¬ (k:Int)<((AJ.map Rf.cells).length:Nat):=m1
   rw [qB] at m1
   rw [Ar ME] at k2
   cases b
   ·exact MK7
   have Dy:r∈AJ:=kK k2.symm
   rw [qG (fun h=>h Dy)] at hR
   refine qA (fun md=>?_) (fun md=>?_)
   ·have md:r.mode=3:=md
    refine qA (fun o6=>?_) (fun o6=>?_)
    rotate_left
    ·exact MLM
    have o6:op=6:=o6
    rw [qG (fun h=>h.2 o6)] at hR
    exact MB7
   have md:¬ r.mode=3:=md
   rw [qG (fun h=>md h.1)] at hR
   exact MB7
 | some t=>
  obtain⟨a,ha⟩:=UE hn hv
  rw [ha] at hK
  rw [hv] at hR
  simp only [] at hR hK
  rw [skV,KX] at hK
  by_cases k2:t.kind=2
  ·rw [qM k2] at hK
   simp only [qM k2] at hR
   try simp only [] at hK
   clear hv ha
   refine MHi ?_
   refine⟨Nat × Bool,fun x=>[(0, .p (Dw l)),(4, .ptr 0 0 0),(5, .ptr 1 0 0),(7, .p (.bool x.2)),(8, .p (i64 x.1))],fun _=>⟨2,[(1,QC (.mk op n rel val r st ar)),(0,Bl ⟨dk,dn,AQ,Ab,AJ,AZ⟩)]⟩,fun x=>x.1<=AJ.length/\x.2=decide (r∈AJ.take x.1),fun x=>AJ.length - x.1,?_,?_⟩
   ·exact MAg
   rintro⟨k,b⟩ ⟨k1,k2⟩
   simp only [] at k1 k2
   refine qA (fun m1=>?_) (fun m1=>?_)
   ·exact MBY
   have m1:¬ (k:Int)<((AJ.map Rf.cells).length:Nat):=m1
   rw [qB] at m1
   rw [Ar ME] at k2
   cases b
   ·exact MK7
   have Dy:r∈AJ:=kK k2.symm
   rw [qG (fun h=>h Dy)] at hR
   refine qA (fun md=>?_) (fun md=>?_)
   ·have md:r.mode=3:=md
    refine qA (fun o6=>?_) (fun o6=>?_)
    rotate_left
    ·exact MLM
    have o6:op=6:=o6
    rw [qG (fun h=>h.2 o6)] at hR
    exact MBz
   have md:¬ r.mode=3:=md
   rw [qG (fun h=>md h.1)] at hR
   exact MBz
  ·rw [qG k2] at hK
   simp only [qG k2] at hR
   try simp only [] at hK
   generalize (if t.Ae=[] then 1 else DL a t.Ae)=sz at hK
   obtain⟨tk,kk,tnm,LA,trs,tcs⟩:=t
   simp only [] at hR hK k2
   have O6:=k2
   clear hv ha k2
   refine MHi ?_
   refine⟨Nat × Bool,fun x=>[(0, .p (Dw l)),(4, .ptr 0 0 0),(5, .ptr 1 0 0),(7, .p (.bool x.2)),(8, .p (i64 x.1))],fun _=>⟨2,[(1,QC (.mk op n rel val r st ar)),(0,Bl ⟨dk,dn,AQ,Ab,AJ,AZ⟩)]⟩,fun x=>x.1<=AJ.length/\x.2=decide (r∈AJ.take x.1),fun x=>AJ.length - x.1,?_,?_⟩
   ·exact MAg
   exact MF2
theorem UB (d:De) (Ah:List Int) (g:Int) (hw:∀ x∈Ah,-9999<=x/\x<=9999) (hl:Ah.length<=100):Pure cx 130 [d.pv,ints Ah,i64 g] (·=.ret [.bool (KT d Ah g)]):=by
 obtain⟨R,hR⟩:∃ R,R=KT d Ah g:=MX
 rw [<- hR]
 have hm:(Ah.map i64).length=Ah.length:=qB ..
 obtain⟨dk,dn,AQ,Ab,AJ,AZ⟩:=d
 by_cases hk:dk=5
 ·rw [gq hk] at hR
  refine pure_of_vc Tryz.func130 rfl rfl rfl ?_
  refine And.intro (fun _=>?_) (fun h=>absurd hk h)
  exact MBJ
 rw [gp hk] at hR
 simp only [] at hR
 refine pure_of_vc Tryz.func130 rfl rfl rfl ?_
 refine And.intro (fun h=>absurd h hk) (fun _=>?_)
 refine⟨Nat,fun k=>[(1, .p (ints Ah)),(2, .p (i64 g)),(3, .ptr 0 0 0),(7, .p (i64 (Ah.take k).sum)),(8, .p (i64 k))],fun _=>⟨1,[(0,Bl ⟨dk,dn,AQ,Ab,AJ,AZ⟩)]⟩,fun k=>k<=Ah.length/\(∀ x∈Ah.take k,0<=x)/\(Ah.take k).sum<=9999 * k/\0<=(Ah.take k).sum,fun k=>Ah.length - k,?_,?_⟩
 ·exact⟨0,MKa,AA [] [] [] rfl (sk) (sk) rfl⟩
 rintro k ⟨k1,k2,k3,k4⟩
 refine qA (fun m1=>?_) (fun m1=>?_)
 ·have m1:(k:Int)<((Ah.map i64).length:Nat):=m1
  rw [hm] at m1
  have V6:k<Ah.length:=by omega
  have hc:=Ff V6
  have hx:=hw _ (Aa 0 V6)
  have hs:=wU Ah k V6
  have Dy:=Aa 0 V6
  have Ch:∀ y∈Ah.take (k+1),y=Ah.getD k 0∨y∈Ah.take k:=fun y hy=>by
   rw [AU 0 V6] at hy
   exact MJP
  generalize Ah.getD k 0=x at hc hx hs Dy Ch
  refine⟨_,MHr,?_⟩
  refine qA (fun w1=>?_) (fun w1=>?_)
  ·exact MGx
  have w1:¬ x<0:=w1
  refine⟨_,MHr,?_⟩
  refine⟨(Ah.take (k+1)).sum,by rw [hs];exact wrap_i64 MBc ME,?_⟩
  refine MAs ?_
  refine⟨k+1,⟨by omega,fun y hy=>?_,by rw [hs];omega,MKZ⟩,AA [] [] [] rfl (sk) (sk) rfl,MEX⟩
  rcases Ch y hy with rfl | hy
  ·omega
  ·exact k2 y hy
 have m1:¬ (k:Int)<((Ah.map i64).length:Nat):=m1
 rw [hm] at m1
 rw [Ar ME] at k2
 have ha:Ah.all (fun w=>decide (0<=w))=true:=qi.2 fun x hx=>qE (k2 x hx)
 rw [ha] at hR
 refine qA (fun e1=>?_) (fun e1=>?_)
 rotate_left
 ·have e1:¬ ((Ah.map i64).length:Int)=dn:=e1
  exact MJ2
 have e1:((Ah.map i64).length:Int)=dn:=e1
 exact MCp
theorem aHg (l:List De) (d:De) (op n val:Int) (r:Rf) (st:List Int):0<=G6 l d op n val r st:=by
 unfold G6
 split
 ·decide
 ·split
  ·decide
  ·split
   ·split <;> decide
   ·decide
theorem Xf (l:List De) (d:De) (r:Rf):0<=IE l d r:=by
 unfold IE
 split
 ·split <;> decide
 ·split <;> decide
def lsQ (l:List Ac) (e:AE) (H':Hp):Prop:=e=.returned (.sl 1 3 0 l.length)/\H'=⟨2,[(1,Bz l)]⟩
abbrev aO9:OT:=(.pure 0 (.pure 1 (.pure 2 (.pure 3 (.pure 4 (.pure 5 (.pure 6 (.pure 7 (.A8 8 [] (.pure 9 .fin) .nil)))))))))
theorem UC (l:List De) (d:De) (RU:d.refs.length<=100) (hl:l.length<=1000) (DF:∀ d∈l,bH d):∀ (m:Nat) (c:Cd) (cur:List Ac),csz c<=m->Tt c->(cur++CG l d c).length<=100000 ->
  A7 cx 129 [.p (Dw l), .p d.pv, .p c.pv, .sl 0 3 0 cur.length] ⟨1,[(0,Bz cur)]⟩ (lsQ (cur++CG l d c))
 | 0,c,_,hz,_,_=>by cases c;rw [csz] at hz;omega
 | m+1, .mk op n rel val r st ar,cur,hz,hw,hlen=>by
  have IH:=UC l d RU hl DF m
  rw [csz] at hz
  rw [Tt] at hw
  obtain⟨⟨w1,w0⟩,w2,w3⟩:=hw
  have IL:(Db ar).length=ar.length:=by rw [EI,qB]
  have hm:(l.map De.cells).length=l.length:=qB ..
  obtain⟨R,hR⟩:∃ R,R=cur++CG l d (.mk op n rel val r st ar):=MX
  rw [<- hR] at hlen ⊢
  by_cases hn:ar=[]
  ·subst hn
   rw [CG] at hR
   by_cases o0:op=0
   ·rw [qM o0,qU] at hR
    obtain⟨dk,dn,AQ,Ab,AJ,AZ⟩:=d
    refine MK2 ?_
    refine And.intro (fun _=>?_) (fun h=>absurd o0 h)
    exact MEy
   ·rw [qG o0] at hR
    have hw:=(w1 rfl).resolve_left o0
    have hT:=aEw l d (op:=op) (n:=n) (rel:=rel) (val:=val) (r:=r) (st:=st) (ar:=[]) hw.1 hw.2.1 hw.2.2 RU hl DF
    have bG:=aHg l d op n val r st
    have hc1:cur.length<=100000:=by rw [hR,qD] at hlen;omega
    generalize G6 l d op n val r st=kk at hT hR bG
    obtain⟨dk,dn,AQ,Ab,AJ,AZ⟩:=d
    refine MK2 ?_
    refine And.intro (fun h=>absurd h o0) (fun _=>?_)
    refine MJ ?_
    refine hT.eq rfl ?_
    refine qA (fun z=>?_) (fun z=>?_)
    ·have z:0<kk:=z
     rw [Dm,qG ME] at hR
     refine⟨MO,[Ac.cells (Ac.mk kk ((l.map De.cells).length:Nat) r.name)],rfl,?_⟩
     refine⟨MFX,cur.map Ac.cells,AB MBV,by show(cur.length+1) * 32<=140737488355328;omega,(cur++[Ac.mk kk ((l.map De.cells).length:Nat) r.name]).map Ac.cells,MHf,?_⟩
     exact⟨[],[(1,4)],[], .returned (.sl 1 3 0 (cur++[Ac.mk kk ((l.map De.cells).length:Nat) r.name]).length),⟨2,[(1,Bz (cur++[Ac.mk kk ((l.map De.cells).length:Nat) r.name]))]⟩,rfl,⟨_,rfl,qH (fun j:Nat=>AV.sl 4 3 0 j) (Ak cur _).symm⟩,sk,by rw [hR,hm],by rw [hR,hm]⟩
    ·have z:¬ 0<kk:=z
     rw [Dm,qM ME,qU] at hR
     exact MEy
  have o0:¬ op=0:=fun e=>hn (w0 e)
  have hC1:CG l d (.mk op n rel val r st ar)=Da l d ar:=by
   exact MJa
  have nC:¬ ar.length=0:=fun e=>hn (qY e)
  rw [hC1] at hR
  obtain⟨dk,dn,AQ,Ab,AJ,AZ⟩:=d
  refine MK2 ?_
  refine And.intro (fun h=>absurd h o0) (fun _=>?_)
  refine And.intro (fun h=>absurd (show((Db ar).length:Int)=0 from h) (by rw [IL];omega)) (fun _=>?_)
  refine⟨Nat × List Ac,fun x=>[(0, .p (Dw l)),(3, .sl 1 3 0 x.2.length),(5, .ptr 2 0 0),(6, .ptr 3 0 0),(10, .p (i64 x.1))],fun x=>⟨4,[(3,QC (.mk op n rel val r st ar)),(2,Bl ⟨dk,dn,AQ,Ab,AJ,AZ⟩),(1,Bz x.2)]⟩,fun x=>x.1<=ar.length/\x.2++Da l ⟨dk,dn,AQ,Ab,AJ,AZ⟩ (ar.drop x.1)=R,fun x=>ar.length - x.1,?_,?_⟩
  ·exact⟨(0,cur),⟨qL _,hR.symm⟩,AA [] [(1,0),(2,1),(3,2)] [] rfl (sk) (sk) rfl⟩
  rintro⟨k,cu⟩ ⟨k1,k2⟩
  simp only [] at k1 k2
  refine qA (fun m1=>?_) (fun m1=>?_)
  rotate_left
  ·have m1:¬ (k:Int)<((Db ar).length:Nat):=m1
   rw [IL] at m1
   rw [qb ME,Da,qU] at k2
   exact⟨[],[(1,1)],[], .returned (.sl 1 3 0 (cu).length),⟨2,[(1,Bz (cu))]⟩,rfl,sk,sk,by rw [<- k2],by rw [<- k2]⟩
  have m1:(k:Int)<((Db ar).length:Nat):=m1
  rw [IL] at m1
  have hk:k<ar.length:=by omega
  have AO:(Db ar)[k]?=some (ar.getD k Fy).cells:=by rw [EI];exact Gu hk
  have Dy:=Aa Fy hk
  have hsz:=nH Dy
  have hxw:=VJ w3 Dy
  rw [EO Fy hk,Da,<- qO] at k2
  have aHh:(cu++CG l ⟨dk,dn,AQ,Ab,AJ,AZ⟩ (ar.getD k Fy)).length<=100000:=by rw [<- k2,qD] at hlen;omega
  generalize ar.getD k Fy=x at AO hsz hxw k2 aHh
  obtain⟨xo,xn,xr,xv,xf,xs,xa⟩:=x
  refine AR aO9 MK ?_
  refine⟨_,MH8,?_⟩
  refine(IH (.mk xo xn xr xv xf xs xa) cu ME hxw aHh).holds.BB [] [(0,1)] rfl (sk) (sk) fun e0 H0 hq=>?_
  obtain⟨rfl,rfl⟩:=hq
  generalize cu++CG l ⟨dk,dn,AQ,Ab,AJ,AZ⟩ (.mk xo xn xr xv xf xs xa)=Ex at k2 aHh ⊢
  refine⟨rfl,_,⟨5,(4,Bz Ex)::[(3,QC (.mk op n rel val r st ar)),(2,Bl ⟨dk,dn,AQ,Ab,AJ,AZ⟩)]⟩,rfl,rfl,?_⟩
  refine MAs ?_
  exact⟨(k+1,Ex),⟨MI6,k2⟩,AA [] [(1,4),(2,2),(3,3)] [] rfl (sk) (sk) rfl,MEs⟩
def Jm (l:List De) (d:De):List Ac:=if d.n<1∨6<d.n then [⟨5,l.length,d.name⟩] else []
def Ef (l:List De) (d:De):List Ac:=if d.kind=2 then Cc l d++Jm l d else if d.kind=3 then Cc l d++(F6 l d++BK l d) else if d.kind=4 then Cc l d++BK l d else []
theorem UA (l:List De) (d:De):(Ef l d).length<=3:=by
 have h3:(Cc l d).length<=1:=by unfold Cc;split <;> simp
 have h4:(BK l d).length<=1:=by unfold BK;split <;> simp
 have h5:(F6 l d).length<=1:=MIn
 have h6:(Jm l d).length<=1:=by unfold Jm;split <;> simp
 unfold Ef
 repeat' split
 all_goals simp only [qD,qy]
 all_goals omega
theorem WU (l:List De) {nm:List UInt8} (hn:nm ≠ []) (hl:l.length<=1000) (DF:∀ d∈l,bH d):(EC l nm=none/\Pure cx 127 [Dw l, .str nm] (·=.ret [.agg [.str [],i64 0, .str [],i64 0,i64 0], .bool false])) ∨
  ∃ (t:De) (y1:List UInt8) (y2:Int) (y3:List UInt8) (y4 y5:Int),EC l nm=some t/\y2=t.kind/\Pure cx 127 [Dw l, .str nm] (·=.ret [.agg [.str y1,i64 y2, .str y3,i64 y4,i64 y5], .bool true]):=by
 have hF:=Xg l nm hl DF
 rw [dO] at hF
 cases hv:EC l nm with
 | none=>
  rw [UD hv] at hF
  exact .inl ⟨rfl,hF⟩
 | some t=>
  obtain⟨a,ha⟩:=UE hn hv
  rw [ha] at hF
  refine .inr ⟨t,(KX a t).name,(KX a t).kind,(KX a t).Ae,(KX a t).card,(KX a t).size,rfl,?_,hF⟩
  rw [KX]
  by_cases h:t.kind=2
  ·rw [qM h,h]
  ·rw [qG h]
theorem QG (l:List De) {d:De} (hn:d.name ≠ []) (hl:l.length<=1000) (DF:∀ d∈l,bH d):(Cc l d=[]/\Pure cx 127 [Dw l, .str d.name] (·=.ret [.agg [.str [],i64 0, .str [],i64 0,i64 0], .bool false])) ∨
  ∃ (y1:List UInt8) (y2:Int) (y3:List UInt8) (y4 y5:Int),Cc l d=[Ac.mk 2 ((l.map De.cells).length:Nat) d.name]/\Pure cx 127 [Dw l, .str d.name] (·=.ret [.agg [.str y1,i64 y2, .str y3,i64 y4,i64 y5], .bool true]):=by
 rcases WU l hn hl DF with ⟨h1,h2⟩ | ⟨t,y1,y2,y3,y4,y5,h1,h2,h3⟩
 ·refine .inl ⟨?_,h2⟩
  rw [Cc,ZV,h1];rfl
 ·refine .inr ⟨y1,y2,y3,y4,y5,?_,h3⟩
  rw [Cc,ZV,h1,qB];rfl
theorem wu (l:List De) (d:De) (hl:l.length<=1000) (DF:∀ d∈l,bH d):(d.Ae=[]/\F6 l d=[])∨(¬ d.Ae=[]/\((F6 l d=[Ac.mk 3 ((l.map De.cells).length:Nat) d.Ae]/\Pure cx 127 [Dw l, .str d.Ae] (·=.ret [.agg [.str [],i64 0, .str [],i64 0,i64 0], .bool false])) ∨
  ∃ (y1:List UInt8) (y2:Int) (y3:List UInt8) (y4 y5:Int),(F6 l d=[]/\Pure cx 127 [Dw l, .str d.Ae] (·=.ret [.agg [.str y1,i64 y2, .str y3,i64 y4,i64 y5], .bool true])/\y2=2)∨(F6 l d=[Ac.mk 4 ((l.map De.cells).length:Nat) d.Ae]/\Pure cx 127 [Dw l, .str d.Ae] (·=.ret [.agg [.str y1,i64 y2, .str y3,i64 y4,i64 y5], .bool true])/\¬ y2=2))):=by
 by_cases hp:d.Ae=[]
 ·exact .inl ⟨hp,by rw [F6,qM hp]⟩
 refine .inr ⟨hp,?_⟩
 rcases WU l hp hl DF with ⟨h1,h2⟩ | ⟨t,y1,y2,y3,y4,y5,h1,h2,h3⟩
 ·refine .inl ⟨?_,h2⟩
  rw [F6,qG hp,h1,qB]
 ·refine .inr ⟨y1,y2,y3,y4,y5,?_⟩
  by_cases hk:t.kind=2
  ·refine .inl ⟨?_,h3,h2.trans hk⟩
   rw [F6,qG hp,h1]
   simp only [qM hk]
  ·refine .inr ⟨?_,h3,fun e=>hk (h2.symm.trans e)⟩
   rw [F6,qG hp,h1,qB]
   simp only [qG hk]
abbrev WQ:OT:=(.pure 0 (.pure 1 (.pure 2 (.pure 3 (.pure 4 (.pure 5 (.pure 6 (.pure 7 (.pure 8 (.pure 9 (.pure 10 (.pure 11 (.pure 12 (.pure 13 (.pure 14 .fin)))))))))))))))
abbrev WT:OT:=(.pure 0 (.pure 1 (.pure 2 (.pure 3 (.pure 4 (.pure 5 (.pure 6 (.A8 7 [] (.pure 8 .fin) .nil))))))))
abbrev aCu:OT:=(.pure 0 (.pure 1 (.pure 2 (.pure 3 (.pure 4 (.pure 5 (.pure 6 (.pure 7 (.pure 8 (.A8 9 [] (.pure 10 .fin) .nil))))))))))
abbrev aCv:OT:=(.pure 0 (.pure 1 (.pure 2 (.pure 3 (.pure 4 (.pure 5 (.pure 6 (.pure 7 (.A8 8 [] (.pure 9 .fin) .nil)))))))))
theorem aNO (l:List De) (dn:Int) (AQ Ab:List UInt8) (AJ:List Rf) (AZ:List Cs) (g:Int) (hd:DcV ⟨5,dn,AQ,Ab,AJ,AZ⟩) (hl:l.length<=1000) (DF:∀ d∈l,bH d):Pure cx 89 [Dw l,(De.mk 5 dn AQ Ab AJ AZ).pv,i64 g] (·=.ret [XQ (Ef l ⟨5,dn,AQ,Ab,AJ,AZ⟩++(Am l ⟨5,dn,AQ,Ab,AJ,AZ⟩ [] AJ++Bd l ⟨5,dn,AQ,Ab,AJ,AZ⟩ g AZ))]):=by
 have hm:(l.map De.cells).length=l.length:=qB ..
 have RU:AJ.length<=8:=hd.refs
 have JM:AZ.length<=12:=hd.few
 have VQ:∀ c∈AZ,CaV c:=hd.cases
 have hrn:∀ r∈AJ,r.name ≠ []:=hd.ok.ok.refs
 have Iy:(5:Int)=1∨(5:Int)=5->AQ=[]:=hd.ok.ok.bare
 have hname:(5:Int)=2∨(5:Int)=3∨(5:Int)=4->AQ ≠ []:=hd.ok.ok.name
 have Lp:¬ (5:Int)=3->Ab=[]:=hd.ok.ok.Ae
 have t1:=UA l ⟨5,dn,AQ,Ab,AJ,AZ⟩
 have t2:=KJ l ⟨5,dn,AQ,Ab,AJ,AZ⟩ AJ []
 have t3:=JF l ⟨5,dn,AQ,Ab,AJ,AZ⟩ g AZ VQ
 have II:=Lp ML
 obtain⟨dum,aL8⟩:∃ dum:List Ac,dum=[]:=MX
 have E8:Ef l ⟨5,dn,AQ,Ab,AJ,AZ⟩=dum:=by rw [aL8];rfl
 have hT0:=Xg l AQ hl DF
 rw [dO,fnd,qM (Iy (.inr rfl))] at hT0
 refine MFi ?_
 apply cut
 case h=>
  intro key
  refine And.intro (fun h=>absurd (show(5:Int)=1 from h) ML) (fun _=>?_)
  refine hT0.eq rfl ?_
  refine And.intro (fun h=>absurd (show(5:Int)=2 from h) ML) (fun _=>?_)
  refine ME0 ?_
  refine And.intro (fun h=>absurd (show(5:Int)=3 from h) ML) (fun _=>?_)
  refine And.intro (fun h=>absurd (show(5:Int)=4 from h) ML) (fun _=>?_)
  exact⟨Nat × List Ac,(fun x=>[(0, .p (Dw l)),(2, .p (i64 g)),(4, .ptr 0 0 0),(7, .sl 1 3 0 x.2.length),(8, .p (i64 (l.map De.cells).length)),(13, .p (i64 x.1))]),(fun x=>⟨2,[(1,Bz x.2),(0,Bl ⟨5,dn,AQ,Ab,AJ,AZ⟩)]⟩),(fun x=>x.1<=AJ.length/\x.2++Am l ⟨5,dn,AQ,Ab,AJ,AZ⟩ (AJ.take x.1) (AJ.drop x.1)=Ef l ⟨5,dn,AQ,Ab,AJ,AZ⟩++Am l ⟨5,dn,AQ,Ab,AJ,AZ⟩ [] AJ),(fun x=>AJ.length - x.1),⟨(0,[]),⟨qL _,by show []++_=_;rw [E8,aL8];rfl⟩,AA [] [] [(1,3)] rfl (sk) (sk) rfl⟩,key.get⟩
 case k=>
  rintro⟨k,cur⟩ ⟨k1,k2⟩
  simp only [] at k1 k2
  have IL:cur.length<=400:=by
   exact MFG
  refine qA (fun m1=>?_) (fun m1=>?_)
  rotate_left
  ·have m1:¬ (k:Int)<((AJ.map Rf.cells).length:Nat):=m1
   rw [qB] at m1
   rw [qb ME,Am,qU] at k2
   refine⟨Nat × List Ac,fun x=>[(0, .p (Dw l)),(2, .p (i64 g)),(4, .ptr 0 0 0),(7, .sl 1 3 0 x.2.length),(8, .p (i64 (l.map De.cells).length)),(17, .p (i64 x.1))],fun x=>⟨2,[(1,Bz x.2),(0,Bl ⟨5,dn,AQ,Ab,AJ,AZ⟩)]⟩,fun x=>x.1<=AZ.length/\x.2++Bd l ⟨5,dn,AQ,Ab,AJ,AZ⟩ g (AZ.drop x.1)=cur++Bd l ⟨5,dn,AQ,Ab,AJ,AZ⟩ g AZ,fun x=>AZ.length - x.1,?_,?_⟩
   ·exact MDN
   rintro⟨j,cu⟩ ⟨j1,j2⟩
   simp only [] at j1 j2
   have SA:(cur++Bd l ⟨5,dn,AQ,Ab,AJ,AZ⟩ g AZ).length<=1000:=MEw
   refine qA (fun n1=>?_) (fun n1=>?_)
   rotate_left
   ·have n1:¬ (j:Int)<((AZ.map Cs.cells).length:Nat):=n1
    rw [qB] at n1
    rw [qb ME,show Bd l ⟨5,dn,AQ,Ab,AJ,AZ⟩ g []=[] from rfl,qU] at j2
    exact MCT
   have n1:(j:Int)<((AZ.map Cs.cells).length:Nat):=n1
   rw [qB] at n1
   have hj:j<AZ.length:=by omega
   have AO:=RF hj
   have hx:=(VQ _ (Aa IM hj)).ok
   rw [EO IM hj,Gf,<- qO,<- qO] at j2
   rw [<- j2,qD,qD] at SA
   generalize AZ.getD j IM=x at AO hx j2 SA
   obtain⟨⟨xo,xn,xr,xv,xf,xs,xa⟩,xw⟩:=x
   obtain⟨x1,x2,x3⟩:=hx
   simp only [] at x1 x2 x3 j2 SA
   have hr:=UB ⟨5,dn,AQ,Ab,AJ,AZ⟩ xw g x2 x3
   refine AR aCu MK ?_
   refine⟨_,MAH,?_⟩
   refine(UC l ⟨5,dn,AQ,Ab,AJ,AZ⟩ MGr hl DF _ (.mk xo xn xr xv xf xs xa) cu (qN _) x1 ME).holds.BB [] [(0,1)] rfl (sk) (sk) fun e0 H0 hq=>?_
   obtain⟨rfl,rfl⟩:=hq
   have BF:(cu++CG l ⟨5,dn,AQ,Ab,AJ,AZ⟩ (.mk xo xn xr xv xf xs xa)).length<=1000:=by omega
   generalize cu++CG l ⟨5,dn,AQ,Ab,AJ,AZ⟩ (.mk xo xn xr xv xf xs xa)=Ex at j2 BF ⊢
   refine⟨rfl,_,⟨3,(2,Bz Ex)::[(0,Bl ⟨5,dn,AQ,Ab,AJ,AZ⟩)]⟩,rfl,rfl,?_⟩
   refine AR aCv MK ?_
   refine⟨_,MAH,?_⟩
   by_cases Jt:KT ⟨5,dn,AQ,Ab,AJ,AZ⟩ xw g=true
   ·exact MBg
   ·exact MBk
  have m1:(k:Int)<((AJ.map Rf.cells).length:Nat):=m1
  rw [qB] at m1
  have hk:k<AJ.length:=by omega
  have AO:=G7 hk
  have hxn:=hrn _ (Aa Bu hk)
  have BJ:Am l ⟨5,dn,AQ,Ab,AJ,AZ⟩ (AJ.take k) (AJ.drop k)=(if AJ.getD k Bu∈AJ.take k then [⟨2,((l.map De.cells).length:Nat),(AJ.getD k Bu).name⟩] else [])++(Dm (IE l ⟨5,dn,AQ,Ab,AJ,AZ⟩ (AJ.getD k Bu)) ((l.map De.cells).length:Nat) (AJ.getD k Bu).name++Am l ⟨5,dn,AQ,Ab,AJ,AZ⟩ (AJ.take (k+1)) (AJ.drop (k+1))):=by
   exact MIy
  generalize AJ.getD k Bu=x at AO hxn BJ
  have Gn:=Xe l ⟨5,dn,AQ,Ab,AJ,AZ⟩ x hxn hl DF
  have bG:=Xf l ⟨5,dn,AQ,Ab,AJ,AZ⟩ x
  generalize IE l ⟨5,dn,AQ,Ab,AJ,AZ⟩ x=kk at Gn bG BJ
  refine⟨Nat × Bool,fun y=>[(0, .p (Dw l)),(2, .p (i64 g)),(4, .ptr 0 0 0),(7, .sl 1 3 0 cur.length),(8, .p (i64 (l.map De.cells).length)),(13, .p (i64 k)),(14, .p (.bool y.2)),(15, .p (i64 y.1))],fun _=>⟨2,[(1,Bz cur),(0,Bl ⟨5,dn,AQ,Ab,AJ,AZ⟩)]⟩,fun y=>y.1<=k/\y.2=decide (x∈AJ.take y.1),fun y=>k - y.1,?_,?_⟩
  ·exact MAg
  exact MDB
theorem aNN (l:List De) (dn:Int) (AQ Ab:List UInt8) (AJ:List Rf) (AZ:List Cs) (g:Int) (hd:DcV ⟨4,dn,AQ,Ab,AJ,AZ⟩) (hl:l.length<=1000) (DF:∀ d∈l,bH d):Pure cx 89 [Dw l,(De.mk 4 dn AQ Ab AJ AZ).pv,i64 g] (·=.ret [XQ (Ef l ⟨4,dn,AQ,Ab,AJ,AZ⟩++(Am l ⟨4,dn,AQ,Ab,AJ,AZ⟩ [] AJ++Bd l ⟨4,dn,AQ,Ab,AJ,AZ⟩ g AZ))]):=by
 have hm:(l.map De.cells).length=l.length:=qB ..
 have RU:AJ.length<=8:=hd.refs
 have JM:AZ.length<=12:=hd.few
 have VQ:∀ c∈AZ,CaV c:=hd.cases
 have hrn:∀ r∈AJ,r.name ≠ []:=hd.ok.ok.refs
 have Iy:(4:Int)=1∨(4:Int)=5->AQ=[]:=hd.ok.ok.bare
 have hname:(4:Int)=2∨(4:Int)=3∨(4:Int)=4->AQ ≠ []:=hd.ok.ok.name
 have Lp:¬ (4:Int)=3->Ab=[]:=hd.ok.ok.Ae
 have t1:=UA l ⟨4,dn,AQ,Ab,AJ,AZ⟩
 have t2:=KJ l ⟨4,dn,AQ,Ab,AJ,AZ⟩ AJ []
 have t3:=JF l ⟨4,dn,AQ,Ab,AJ,AZ⟩ g AZ VQ
 have F4:=hname (.inr (.inr rfl))
 have II:=Lp ML
 have E8:Ef l ⟨4,dn,AQ,Ab,AJ,AZ⟩=Cc l ⟨4,dn,AQ,Ab,AJ,AZ⟩++BK l ⟨4,dn,AQ,Ab,AJ,AZ⟩:=rfl
 have hT:=QG l (d:=⟨4,dn,AQ,Ab,AJ,AZ⟩) F4 hl DF
 refine MFi ?_
 apply cut
 case h=>
  intro key
  refine And.intro (fun h=>absurd (show(4:Int)=1 from h) ML) (fun _=>?_)
  refine jy hT (fun hT=>?_) (fun hT=>?_)
  ·obtain⟨K9,hT2⟩:=hT
   refine hT2.eq rfl ?_
   refine MD8 ?_
   refine ME0 ?_
   refine MGE ?_
   refine MJ ?_
   refine Gx (fun c1=>?_) (fun c1=>?_)
   ·have c1:dn<2:=c1
    have hc:BK l ⟨4,dn,AQ,Ab,AJ,AZ⟩=[Ac.mk 6 ((l.map De.cells).length:Nat) AQ]:=MDA
    refine MBA ?_
    refine M3 ?_
    exact MAO
   have c1:¬ dn<2:=c1
   refine Gx (fun c2=>?_) (fun c2=>?_)
   ·have c2:4<dn:=c2
    have hc:BK l ⟨4,dn,AQ,Ab,AJ,AZ⟩=[Ac.mk 6 ((l.map De.cells).length:Nat) AQ]:=MC9
    refine MBA ?_
    refine M3 ?_
    exact MAO
   ·have c2:¬ 4<dn:=c2
    have hc:BK l ⟨4,dn,AQ,Ab,AJ,AZ⟩=[]:=MC2
    exact⟨Nat × List Ac,(fun x=>[(0, .p (Dw l)),(2, .p (i64 g)),(4, .ptr 0 0 0),(7, .sl 1 3 0 x.2.length),(8, .p (i64 (l.map De.cells).length)),(13, .p (i64 x.1))]),(fun x=>⟨2,[(1,Bz x.2),(0,Bl ⟨4,dn,AQ,Ab,AJ,AZ⟩)]⟩),(fun x=>x.1<=AJ.length/\x.2++Am l ⟨4,dn,AQ,Ab,AJ,AZ⟩ (AJ.take x.1) (AJ.drop x.1)=Ef l ⟨4,dn,AQ,Ab,AJ,AZ⟩++Am l ⟨4,dn,AQ,Ab,AJ,AZ⟩ [] AJ),(fun x=>AJ.length - x.1),MFd,key.get⟩
  ·obtain⟨z1,z2,z3,z4,z5,K9,hT2⟩:=hT
   refine hT2.eq rfl ?_
   refine MKL ?_
   refine MFm ?_
   refine M3 ?_
   refine MD8 ?_
   refine ME0 ?_
   refine MGE ?_
   refine MJ ?_
   refine Gx (fun c1=>?_) (fun c1=>?_)
   ·have c1:dn<2:=c1
    have hc:BK l ⟨4,dn,AQ,Ab,AJ,AZ⟩=[Ac.mk 6 ((l.map De.cells).length:Nat) AQ]:=MDA
    refine MBA ?_
    refine MZ ?_
    exact MAA
   have c1:¬ dn<2:=c1
   refine Gx (fun c2=>?_) (fun c2=>?_)
   ·have c2:4<dn:=c2
    have hc:BK l ⟨4,dn,AQ,Ab,AJ,AZ⟩=[Ac.mk 6 ((l.map De.cells).length:Nat) AQ]:=MC9
    refine MBA ?_
    refine MZ ?_
    exact MAA
   ·have c2:¬ 4<dn:=c2
    have hc:BK l ⟨4,dn,AQ,Ab,AJ,AZ⟩=[]:=MC2
    exact⟨Nat × List Ac,(fun x=>[(0, .p (Dw l)),(2, .p (i64 g)),(4, .ptr 0 0 0),(7, .sl 1 3 0 x.2.length),(8, .p (i64 (l.map De.cells).length)),(13, .p (i64 x.1))]),(fun x=>⟨2,[(1,Bz x.2),(0,Bl ⟨4,dn,AQ,Ab,AJ,AZ⟩)]⟩),(fun x=>x.1<=AJ.length/\x.2++Am l ⟨4,dn,AQ,Ab,AJ,AZ⟩ (AJ.take x.1) (AJ.drop x.1)=Ef l ⟨4,dn,AQ,Ab,AJ,AZ⟩++Am l ⟨4,dn,AQ,Ab,AJ,AZ⟩ [] AJ),(fun x=>AJ.length - x.1),MDZ,key.get⟩
 case k=>
  rintro⟨k,cur⟩ ⟨k1,k2⟩
  simp only [] at k1 k2
  have IL:cur.length<=400:=by
   exact MFG
  refine qA (fun m1=>?_) (fun m1=>?_)
  rotate_left
  ·have m1:¬ (k:Int)<((AJ.map Rf.cells).length:Nat):=m1
   rw [qB] at m1
   rw [qb ME,Am,qU] at k2
   refine⟨Nat × List Ac,fun x=>[(0, .p (Dw l)),(2, .p (i64 g)),(4, .ptr 0 0 0),(7, .sl 1 3 0 x.2.length),(8, .p (i64 (l.map De.cells).length)),(17, .p (i64 x.1))],fun x=>⟨2,[(1,Bz x.2),(0,Bl ⟨4,dn,AQ,Ab,AJ,AZ⟩)]⟩,fun x=>x.1<=AZ.length/\x.2++Bd l ⟨4,dn,AQ,Ab,AJ,AZ⟩ g (AZ.drop x.1)=cur++Bd l ⟨4,dn,AQ,Ab,AJ,AZ⟩ g AZ,fun x=>AZ.length - x.1,?_,?_⟩
   ·exact MDN
   rintro⟨j,cu⟩ ⟨j1,j2⟩
   simp only [] at j1 j2
   have SA:(cur++Bd l ⟨4,dn,AQ,Ab,AJ,AZ⟩ g AZ).length<=1000:=MEw
   refine qA (fun n1=>?_) (fun n1=>?_)
   rotate_left
   ·have n1:¬ (j:Int)<((AZ.map Cs.cells).length:Nat):=n1
    rw [qB] at n1
    rw [qb ME,show Bd l ⟨4,dn,AQ,Ab,AJ,AZ⟩ g []=[] from rfl,qU] at j2
    exact MCT
   have n1:(j:Int)<((AZ.map Cs.cells).length:Nat):=n1
   rw [qB] at n1
   have hj:j<AZ.length:=by omega
   have AO:=RF hj
   have hx:=(VQ _ (Aa IM hj)).ok
   rw [EO IM hj,Gf,<- qO,<- qO] at j2
   rw [<- j2,qD,qD] at SA
   generalize AZ.getD j IM=x at AO hx j2 SA
   obtain⟨⟨xo,xn,xr,xv,xf,xs,xa⟩,xw⟩:=x
   obtain⟨x1,x2,x3⟩:=hx
   simp only [] at x1 x2 x3 j2 SA
   have hr:=UB ⟨4,dn,AQ,Ab,AJ,AZ⟩ xw g x2 x3
   refine AR aCu MK ?_
   refine⟨_,MAH,?_⟩
   refine(UC l ⟨4,dn,AQ,Ab,AJ,AZ⟩ MGr hl DF _ (.mk xo xn xr xv xf xs xa) cu (qN _) x1 ME).holds.BB [] [(0,1)] rfl (sk) (sk) fun e0 H0 hq=>?_
   obtain⟨rfl,rfl⟩:=hq
   have BF:(cu++CG l ⟨4,dn,AQ,Ab,AJ,AZ⟩ (.mk xo xn xr xv xf xs xa)).length<=1000:=by omega
   generalize cu++CG l ⟨4,dn,AQ,Ab,AJ,AZ⟩ (.mk xo xn xr xv xf xs xa)=Ex at j2 BF ⊢
   refine⟨rfl,_,⟨3,(2,Bz Ex)::[(0,Bl ⟨4,dn,AQ,Ab,AJ,AZ⟩)]⟩,rfl,rfl,?_⟩
   refine AR aCv MK ?_
   refine⟨_,MAH,?_⟩
   by_cases Jt:KT ⟨4,dn,AQ,Ab,AJ,AZ⟩ xw g=true
   ·exact MBg
   ·exact MBk
  have m1:(k:Int)<((AJ.map Rf.cells).length:Nat):=m1
  rw [qB] at m1
  have hk:k<AJ.length:=by omega
  have AO:=G7 hk
  have hxn:=hrn _ (Aa Bu hk)
  have BJ:Am l ⟨4,dn,AQ,Ab,AJ,AZ⟩ (AJ.take k) (AJ.drop k)=(if AJ.getD k Bu∈AJ.take k then [⟨2,((l.map De.cells).length:Nat),(AJ.getD k Bu).name⟩] else [])++(Dm (IE l ⟨4,dn,AQ,Ab,AJ,AZ⟩ (AJ.getD k Bu)) ((l.map De.cells).length:Nat) (AJ.getD k Bu).name++Am l ⟨4,dn,AQ,Ab,AJ,AZ⟩ (AJ.take (k+1)) (AJ.drop (k+1))):=by
   exact MIy
  generalize AJ.getD k Bu=x at AO hxn BJ
  have Gn:=Xe l ⟨4,dn,AQ,Ab,AJ,AZ⟩ x hxn hl DF
  have bG:=Xf l ⟨4,dn,AQ,Ab,AJ,AZ⟩ x
  generalize IE l ⟨4,dn,AQ,Ab,AJ,AZ⟩ x=kk at Gn bG BJ
  refine⟨Nat × Bool,fun y=>[(0, .p (Dw l)),(2, .p (i64 g)),(4, .ptr 0 0 0),(7, .sl 1 3 0 cur.length),(8, .p (i64 (l.map De.cells).length)),(13, .p (i64 k)),(14, .p (.bool y.2)),(15, .p (i64 y.1))],fun _=>⟨2,[(1,Bz cur),(0,Bl ⟨4,dn,AQ,Ab,AJ,AZ⟩)]⟩,fun y=>y.1<=k/\y.2=decide (x∈AJ.take y.1),fun y=>k - y.1,?_,?_⟩
  ·exact MAg
  exact MDB
theorem aNL (l:List De) (dn:Int) (AQ Ab:List UInt8) (AJ:List Rf) (AZ:List Cs) (g:Int) (hd:DcV ⟨2,dn,AQ,Ab,AJ,AZ⟩) (hl:l.length<=1000) (DF:∀ d∈l,bH d):Pure cx 89 [Dw l,(De.mk 2 dn AQ Ab AJ AZ).pv,i64 g] (·=.ret [XQ (Ef l ⟨2,dn,AQ,Ab,AJ,AZ⟩++(Am l ⟨2,dn,AQ,Ab,AJ,AZ⟩ [] AJ++Bd l ⟨2,dn,AQ,Ab,AJ,AZ⟩ g AZ))]):=by
 have hm:(l.map De.cells).length=l.length:=qB ..
 have RU:AJ.length<=8:=hd.refs
 have JM:AZ.length<=12:=hd.few
 have VQ:∀ c∈AZ,CaV c:=hd.cases
 have hrn:∀ r∈AJ,r.name ≠ []:=hd.ok.ok.refs
 have Iy:(2:Int)=1∨(2:Int)=5->AQ=[]:=hd.ok.ok.bare
 have hname:(2:Int)=2∨(2:Int)=3∨(2:Int)=4->AQ ≠ []:=hd.ok.ok.name
 have Lp:¬ (2:Int)=3->Ab=[]:=hd.ok.ok.Ae
 have t1:=UA l ⟨2,dn,AQ,Ab,AJ,AZ⟩
 have t2:=KJ l ⟨2,dn,AQ,Ab,AJ,AZ⟩ AJ []
 have t3:=JF l ⟨2,dn,AQ,Ab,AJ,AZ⟩ g AZ VQ
 have F4:=hname (.inl rfl)
 have II:=Lp ML
 have E8:Ef l ⟨2,dn,AQ,Ab,AJ,AZ⟩=Cc l ⟨2,dn,AQ,Ab,AJ,AZ⟩++Jm l ⟨2,dn,AQ,Ab,AJ,AZ⟩:=rfl
 have hT:=QG l (d:=⟨2,dn,AQ,Ab,AJ,AZ⟩) F4 hl DF
 refine MFi ?_
 apply cut
 case h=>
  intro key
  refine And.intro (fun h=>absurd (show(2:Int)=1 from h) ML) (fun _=>?_)
  refine jy hT (fun hT=>?_) (fun hT=>?_)
  ·obtain⟨K9,hT2⟩:=hT
   refine hT2.eq rfl ?_
   refine MJ ?_
   refine Gx (fun c1=>?_) (fun c1=>?_)
   ·have c1:dn<1:=c1
    have hc:Jm l ⟨2,dn,AQ,Ab,AJ,AZ⟩=[Ac.mk 5 ((l.map De.cells).length:Nat) AQ]:=by rw [Jm,qM (.inl c1),hm]
    exact MCe
   have c1:¬ dn<1:=c1
   refine Gx (fun c2=>?_) (fun c2=>?_)
   ·have c2:6<dn:=c2
    have hc:Jm l ⟨2,dn,AQ,Ab,AJ,AZ⟩=[Ac.mk 5 ((l.map De.cells).length:Nat) AQ]:=by rw [Jm,qM (.inr c2),hm]
    exact MCe
   ·have c2:¬ 6<dn:=c2
    have hc:Jm l ⟨2,dn,AQ,Ab,AJ,AZ⟩=[]:=MJw
    refine ME0 ?_
    refine And.intro (fun h=>absurd (show(2:Int)=3 from h) ML) (fun _=>?_)
    refine And.intro (fun h=>absurd (show(2:Int)=4 from h) ML) (fun _=>?_)
    exact⟨Nat × List Ac,(fun x=>[(0, .p (Dw l)),(2, .p (i64 g)),(4, .ptr 0 0 0),(7, .sl 1 3 0 x.2.length),(8, .p (i64 (l.map De.cells).length)),(13, .p (i64 x.1))]),(fun x=>⟨2,[(1,Bz x.2),(0,Bl ⟨2,dn,AQ,Ab,AJ,AZ⟩)]⟩),(fun x=>x.1<=AJ.length/\x.2++Am l ⟨2,dn,AQ,Ab,AJ,AZ⟩ (AJ.take x.1) (AJ.drop x.1)=Ef l ⟨2,dn,AQ,Ab,AJ,AZ⟩++Am l ⟨2,dn,AQ,Ab,AJ,AZ⟩ [] AJ),(fun x=>AJ.length - x.1),MFd,key.get⟩
  ·obtain⟨z1,z2,z3,z4,z5,K9,hT2⟩:=hT
   refine hT2.eq rfl ?_
   refine MKL ?_
   refine MFm ?_
   refine M3 ?_
   refine MJ ?_
   refine Gx (fun c1=>?_) (fun c1=>?_)
   ·have c1:dn<1:=c1
    have hc:Jm l ⟨2,dn,AQ,Ab,AJ,AZ⟩=[Ac.mk 5 ((l.map De.cells).length:Nat) AQ]:=by rw [Jm,qM (.inl c1),hm]
    exact MBS
   have c1:¬ dn<1:=c1
   refine Gx (fun c2=>?_) (fun c2=>?_)
   ·have c2:6<dn:=c2
    have hc:Jm l ⟨2,dn,AQ,Ab,AJ,AZ⟩=[Ac.mk 5 ((l.map De.cells).length:Nat) AQ]:=by rw [Jm,qM (.inr c2),hm]
    exact MBS
   ·have c2:¬ 6<dn:=c2
    have hc:Jm l ⟨2,dn,AQ,Ab,AJ,AZ⟩=[]:=MJw
    refine ME0 ?_
    refine And.intro (fun h=>absurd (show(2:Int)=3 from h) ML) (fun _=>?_)
    refine And.intro (fun h=>absurd (show(2:Int)=4 from h) ML) (fun _=>?_)
    exact⟨Nat × List Ac,(fun x=>[(0, .p (Dw l)),(2, .p (i64 g)),(4, .ptr 0 0 0),(7, .sl 1 3 0 x.2.length),(8, .p (i64 (l.map De.cells).length)),(13, .p (i64 x.1))]),(fun x=>⟨2,[(1,Bz x.2),(0,Bl ⟨2,dn,AQ,Ab,AJ,AZ⟩)]⟩),(fun x=>x.1<=AJ.length/\x.2++Am l ⟨2,dn,AQ,Ab,AJ,AZ⟩ (AJ.take x.1) (AJ.drop x.1)=Ef l ⟨2,dn,AQ,Ab,AJ,AZ⟩++Am l ⟨2,dn,AQ,Ab,AJ,AZ⟩ [] AJ),(fun x=>AJ.length - x.1),MDZ,key.get⟩
 case k=>
  rintro⟨k,cur⟩ ⟨k1,k2⟩
  simp only [] at k1 k2
  have IL:cur.length<=400:=by
   exact MFG
  refine qA (fun m1=>?_) (fun m1=>?_)
  rotate_left
  ·have m1:¬ (k:Int)<((AJ.map Rf.cells).length:Nat):=m1
   rw [qB] at m1
   rw [qb ME,Am,qU] at k2
   refine⟨Nat × List Ac,fun x=>[(0, .p (Dw l)),(2, .p (i64 g)),(4, .ptr 0 0 0),(7, .sl 1 3 0 x.2.length),(8, .p (i64 (l.map De.cells).length)),(17, .p (i64 x.1))],fun x=>⟨2,[(1,Bz x.2),(0,Bl ⟨2,dn,AQ,Ab,AJ,AZ⟩)]⟩,fun x=>x.1<=AZ.length/\x.2++Bd l ⟨2,dn,AQ,Ab,AJ,AZ⟩ g (AZ.drop x.1)=cur++Bd l ⟨2,dn,AQ,Ab,AJ,AZ⟩ g AZ,fun x=>AZ.length - x.1,?_,?_⟩
   ·exact MDN
   rintro⟨j,cu⟩ ⟨j1,j2⟩
   simp only [] at j1 j2
   have SA:(cur++Bd l ⟨2,dn,AQ,Ab,AJ,AZ⟩ g AZ).length<=1000:=MEw
   refine qA (fun n1=>?_) (fun n1=>?_)
   rotate_left
   ·have n1:¬ (j:Int)<((AZ.map Cs.cells).length:Nat):=n1
    rw [qB] at n1
    rw [qb ME,show Bd l ⟨2,dn,AQ,Ab,AJ,AZ⟩ g []=[] from rfl,qU] at j2
    exact MCT
   have n1:(j:Int)<((AZ.map Cs.cells).length:Nat):=n1
   rw [qB] at n1
   have hj:j<AZ.length:=by omega
   have AO:=RF hj
   have hx:=(VQ _ (Aa IM hj)).ok
   rw [EO IM hj,Gf,<- qO,<- qO] at j2
   rw [<- j2,qD,qD] at SA
   generalize AZ.getD j IM=x at AO hx j2 SA
   obtain⟨⟨xo,xn,xr,xv,xf,xs,xa⟩,xw⟩:=x
   obtain⟨x1,x2,x3⟩:=hx
   simp only [] at x1 x2 x3 j2 SA
   have hr:=UB ⟨2,dn,AQ,Ab,AJ,AZ⟩ xw g x2 x3
   refine AR aCu MK ?_
   refine⟨_,MAH,?_⟩
   refine(UC l ⟨2,dn,AQ,Ab,AJ,AZ⟩ MGr hl DF _ (.mk xo xn xr xv xf xs xa) cu (qN _) x1 ME).holds.BB [] [(0,1)] rfl (sk) (sk) fun e0 H0 hq=>?_
   obtain⟨rfl,rfl⟩:=hq
   have BF:(cu++CG l ⟨2,dn,AQ,Ab,AJ,AZ⟩ (.mk xo xn xr xv xf xs xa)).length<=1000:=by omega
   generalize cu++CG l ⟨2,dn,AQ,Ab,AJ,AZ⟩ (.mk xo xn xr xv xf xs xa)=Ex at j2 BF ⊢
   refine⟨rfl,_,⟨3,(2,Bz Ex)::[(0,Bl ⟨2,dn,AQ,Ab,AJ,AZ⟩)]⟩,rfl,rfl,?_⟩
   refine AR aCv MK ?_
   refine⟨_,MAH,?_⟩
   by_cases Jt:KT ⟨2,dn,AQ,Ab,AJ,AZ⟩ xw g=true
   ·exact MBg
   ·exact MBk
  have m1:(k:Int)<((AJ.map Rf.cells).length:Nat):=m1
  rw [qB] at m1
  have hk:k<AJ.length:=by omega
  have AO:=G7 hk
  have hxn:=hrn _ (Aa Bu hk)
  have BJ:Am l ⟨2,dn,AQ,Ab,AJ,AZ⟩ (AJ.take k) (AJ.drop k)=(if AJ.getD k Bu∈AJ.take k then [⟨2,((l.map De.cells).length:Nat),(AJ.getD k Bu).name⟩] else [])++(Dm (IE l ⟨2,dn,AQ,Ab,AJ,AZ⟩ (AJ.getD k Bu)) ((l.map De.cells).length:Nat) (AJ.getD k Bu).name++Am l ⟨2,dn,AQ,Ab,AJ,AZ⟩ (AJ.take (k+1)) (AJ.drop (k+1))):=by
   exact MIy
  generalize AJ.getD k Bu=x at AO hxn BJ
  have Gn:=Xe l ⟨2,dn,AQ,Ab,AJ,AZ⟩ x hxn hl DF
  have bG:=Xf l ⟨2,dn,AQ,Ab,AJ,AZ⟩ x
  generalize IE l ⟨2,dn,AQ,Ab,AJ,AZ⟩ x=kk at Gn bG BJ
  refine⟨Nat × Bool,fun y=>[(0, .p (Dw l)),(2, .p (i64 g)),(4, .ptr 0 0 0),(7, .sl 1 3 0 cur.length),(8, .p (i64 (l.map De.cells).length)),(13, .p (i64 k)),(14, .p (.bool y.2)),(15, .p (i64 y.1))],fun _=>⟨2,[(1,Bz cur),(0,Bl ⟨2,dn,AQ,Ab,AJ,AZ⟩)]⟩,fun y=>y.1<=k/\y.2=decide (x∈AJ.take y.1),fun y=>k - y.1,?_,?_⟩
  ·exact MAg
  exact MDB
theorem aNM (l:List De) (dn:Int) (AQ Ab:List UInt8) (AJ:List Rf) (AZ:List Cs) (g:Int) (hd:DcV ⟨3,dn,AQ,Ab,AJ,AZ⟩) (hl:l.length<=1000) (DF:∀ d∈l,bH d):Pure cx 89 [Dw l,(De.mk 3 dn AQ Ab AJ AZ).pv,i64 g] (·=.ret [XQ (Ef l ⟨3,dn,AQ,Ab,AJ,AZ⟩++(Am l ⟨3,dn,AQ,Ab,AJ,AZ⟩ [] AJ++Bd l ⟨3,dn,AQ,Ab,AJ,AZ⟩ g AZ))]):=by
 have hm:(l.map De.cells).length=l.length:=qB ..
 have RU:AJ.length<=8:=hd.refs
 have JM:AZ.length<=12:=hd.few
 have VQ:∀ c∈AZ,CaV c:=hd.cases
 have hrn:∀ r∈AJ,r.name ≠ []:=hd.ok.ok.refs
 have Iy:(3:Int)=1∨(3:Int)=5->AQ=[]:=hd.ok.ok.bare
 have hname:(3:Int)=2∨(3:Int)=3∨(3:Int)=4->AQ ≠ []:=hd.ok.ok.name
 have Lp:¬ (3:Int)=3->Ab=[]:=hd.ok.ok.Ae
 have t1:=UA l ⟨3,dn,AQ,Ab,AJ,AZ⟩
 have t2:=KJ l ⟨3,dn,AQ,Ab,AJ,AZ⟩ AJ []
 have t3:=JF l ⟨3,dn,AQ,Ab,AJ,AZ⟩ g AZ VQ
 have F4:=hname (.inr (.inl rfl))
 have E8:Ef l ⟨3,dn,AQ,Ab,AJ,AZ⟩=Cc l ⟨3,dn,AQ,Ab,AJ,AZ⟩++(F6 l ⟨3,dn,AQ,Ab,AJ,AZ⟩++BK l ⟨3,dn,AQ,Ab,AJ,AZ⟩):=rfl
 have hT:=QG l (d:=⟨3,dn,AQ,Ab,AJ,AZ⟩) F4 hl DF
 have hP:=wu l ⟨3,dn,AQ,Ab,AJ,AZ⟩ hl DF
 refine MFi ?_
 apply cut
 case h=>
  intro key
  refine And.intro (fun h=>absurd (show(3:Int)=1 from h) ML) (fun _=>?_)
  refine jy hT (fun hT=>?_) (fun hT=>?_)
  ·obtain⟨K9,hT2⟩:=hT
   refine hT2.eq rfl ?_
   refine MDI ?_
   refine jy hP (fun hp=>?_) (fun hp=>?_)
   ·obtain⟨hp1,Lv⟩:=hp
    refine And.intro (fun _=>?_) (fun h=>absurd hp1 h)
    refine MJ ?_
    refine Gx (fun c1=>?_) (fun c1=>?_)
    ·have c1:dn<2:=c1
     have hc:BK l ⟨3,dn,AQ,Ab,AJ,AZ⟩=[Ac.mk 6 ((l.map De.cells).length:Nat) AQ]:=MDA
     refine MBA ?_
     refine M3 ?_
     exact MAN
    have c1:¬ dn<2:=c1
    refine Gx (fun c2=>?_) (fun c2=>?_)
    ·have c2:4<dn:=c2
     have hc:BK l ⟨3,dn,AQ,Ab,AJ,AZ⟩=[Ac.mk 6 ((l.map De.cells).length:Nat) AQ]:=MC9
     refine MBA ?_
     refine M3 ?_
     exact MAN
    ·exact MAL
   obtain⟨hp1,hp⟩:=hp
   refine And.intro (fun h=>absurd h hp1) (fun _=>?_)
   refine jy hp (fun hp=>?_) (fun hp=>?_)
   ·obtain⟨Lv,hp3⟩:=hp
    refine hp3.eq rfl ?_
    refine⟨MO,[Ac.cells (Ac.mk 3 ((l.map De.cells).length:Nat) Ab)],rfl,?_⟩
    refine M3 ?_
    refine MJ ?_
    refine Gx (fun c1=>?_) (fun c1=>?_)
    ·have c1:dn<2:=c1
     have hc:BK l ⟨3,dn,AQ,Ab,AJ,AZ⟩=[Ac.mk 6 ((l.map De.cells).length:Nat) AQ]:=MDA
     refine MBA ?_
     exact Ml
    have c1:¬ dn<2:=c1
    refine Gx (fun c2=>?_) (fun c2=>?_)
    ·have c2:4<dn:=c2
     have hc:BK l ⟨3,dn,AQ,Ab,AJ,AZ⟩=[Ac.mk 6 ((l.map De.cells).length:Nat) AQ]:=MC9
     refine MBA ?_
     exact Ml
    ·have c2:¬ 4<dn:=c2
     have hc:BK l ⟨3,dn,AQ,Ab,AJ,AZ⟩=[]:=MC2
     exact⟨Nat × List Ac,(fun x=>[(0, .p (Dw l)),(2, .p (i64 g)),(4, .ptr 0 0 0),(7, .sl 1 3 0 x.2.length),(8, .p (i64 (l.map De.cells).length)),(13, .p (i64 x.1))]),(fun x=>⟨2,[(1,Bz x.2),(0,Bl ⟨3,dn,AQ,Ab,AJ,AZ⟩)]⟩),(fun x=>x.1<=AJ.length/\x.2++Am l ⟨3,dn,AQ,Ab,AJ,AZ⟩ (AJ.take x.1) (AJ.drop x.1)=Ef l ⟨3,dn,AQ,Ab,AJ,AZ⟩++Am l ⟨3,dn,AQ,Ab,AJ,AZ⟩ [] AJ),(fun x=>AJ.length - x.1),⟨(0,[Ac.mk 3 ((l.map De.cells).length:Nat) Ab]),⟨qL _,by show [Ac.mk 3 ((l.map De.cells).length:Nat) Ab]++_=_;rw [E8,K9,Lv,hc];rfl⟩,AA [] [(1,4)] [] rfl (sk) (sk) rfl⟩,key.get⟩
   obtain⟨y1,y2,y3,y4,y5,hp⟩:=hp
   refine jy hp (fun hp=>?_) (fun hp=>?_)
   ·obtain⟨Lv,hp3,hp4⟩:=hp
    refine hp3.eq rfl ?_
    refine And.intro (fun _=>?_) (fun h=>absurd hp4 h)
    refine MJ ?_
    refine Gx (fun c1=>?_) (fun c1=>?_)
    ·have c1:dn<2:=c1
     have hc:BK l ⟨3,dn,AQ,Ab,AJ,AZ⟩=[Ac.mk 6 ((l.map De.cells).length:Nat) AQ]:=MDA
     refine MBA ?_
     refine M3 ?_
     exact MAM
    have c1:¬ dn<2:=c1
    refine Gx (fun c2=>?_) (fun c2=>?_)
    ·have c2:4<dn:=c2
     have hc:BK l ⟨3,dn,AQ,Ab,AJ,AZ⟩=[Ac.mk 6 ((l.map De.cells).length:Nat) AQ]:=MC9
     refine MBA ?_
     refine M3 ?_
     exact MAM
    ·exact MAL
   ·obtain⟨Lv,hp3,hp4⟩:=hp
    refine hp3.eq rfl ?_
    refine And.intro (fun h=>absurd h hp4) (fun _=>?_)
    refine⟨MO,[Ac.cells (Ac.mk 4 ((l.map De.cells).length:Nat) Ab)],rfl,?_⟩
    refine M3 ?_
    refine MJ ?_
    refine Gx (fun c1=>?_) (fun c1=>?_)
    ·have c1:dn<2:=c1
     have hc:BK l ⟨3,dn,AQ,Ab,AJ,AZ⟩=[Ac.mk 6 ((l.map De.cells).length:Nat) AQ]:=MDA
     refine MBA ?_
     exact Mk
    have c1:¬ dn<2:=c1
    refine Gx (fun c2=>?_) (fun c2=>?_)
    ·have c2:4<dn:=c2
     have hc:BK l ⟨3,dn,AQ,Ab,AJ,AZ⟩=[Ac.mk 6 ((l.map De.cells).length:Nat) AQ]:=MC9
     refine MBA ?_
     exact Mk
    ·have c2:¬ 4<dn:=c2
     have hc:BK l ⟨3,dn,AQ,Ab,AJ,AZ⟩=[]:=MC2
     exact⟨Nat × List Ac,(fun x=>[(0, .p (Dw l)),(2, .p (i64 g)),(4, .ptr 0 0 0),(7, .sl 1 3 0 x.2.length),(8, .p (i64 (l.map De.cells).length)),(13, .p (i64 x.1))]),(fun x=>⟨2,[(1,Bz x.2),(0,Bl ⟨3,dn,AQ,Ab,AJ,AZ⟩)]⟩),(fun x=>x.1<=AJ.length/\x.2++Am l ⟨3,dn,AQ,Ab,AJ,AZ⟩ (AJ.take x.1) (AJ.drop x.1)=Ef l ⟨3,dn,AQ,Ab,AJ,AZ⟩++Am l ⟨3,dn,AQ,Ab,AJ,AZ⟩ [] AJ),(fun x=>AJ.length - x.1),⟨(0,[Ac.mk 4 ((l.map De.cells).length:Nat) Ab]),⟨qL _,by show [Ac.mk 4 ((l.map De.cells).length:Nat) Ab]++_=_;rw [E8,K9,Lv,hc];rfl⟩,AA [] [(1,4)] [] rfl (sk) (sk) rfl⟩,key.get⟩
  ·obtain⟨z1,z2,z3,z4,z5,K9,hT2⟩:=hT
   refine hT2.eq rfl ?_
   refine MKL ?_
   refine MFm ?_
   refine M3 ?_
   refine MDI ?_
   refine jy hP (fun hp=>?_) (fun hp=>?_)
   ·obtain⟨hp1,Lv⟩:=hp
    refine And.intro (fun _=>?_) (fun h=>absurd hp1 h)
    refine MJ ?_
    refine Gx (fun c1=>?_) (fun c1=>?_)
    ·have c1:dn<2:=c1
     have hc:BK l ⟨3,dn,AQ,Ab,AJ,AZ⟩=[Ac.mk 6 ((l.map De.cells).length:Nat) AQ]:=MDA
     refine MBA ?_
     refine MZ ?_
     exact M9
    have c1:¬ dn<2:=c1
    refine Gx (fun c2=>?_) (fun c2=>?_)
    ·have c2:4<dn:=c2
     have hc:BK l ⟨3,dn,AQ,Ab,AJ,AZ⟩=[Ac.mk 6 ((l.map De.cells).length:Nat) AQ]:=MC9
     refine MBA ?_
     refine MZ ?_
     exact M9
    ·exact M7
   obtain⟨hp1,hp⟩:=hp
   refine And.intro (fun h=>absurd h hp1) (fun _=>?_)
   refine jy hp (fun hp=>?_) (fun hp=>?_)
   ·obtain⟨Lv,hp3⟩:=hp
    refine hp3.eq rfl ?_
    refine⟨MO,[Ac.cells (Ac.mk 3 ((l.map De.cells).length:Nat) Ab)],rfl,?_⟩
    refine⟨MG1,[Ac.cells (Ac.mk 2 ((l.map De.cells).length:Nat) AQ)],rfl,MKk,[Ac.cells (Ac.mk 2 ((l.map De.cells).length:Nat) AQ),Ac.cells (Ac.mk 3 ((l.map De.cells).length:Nat) Ab)],rfl,?_⟩
    refine MJ ?_
    refine Gx (fun c1=>?_) (fun c1=>?_)
    ·have c1:dn<2:=c1
     have hc:BK l ⟨3,dn,AQ,Ab,AJ,AZ⟩=[Ac.mk 6 ((l.map De.cells).length:Nat) AQ]:=MDA
     refine MBA ?_
     exact Mf
    have c1:¬ dn<2:=c1
    refine Gx (fun c2=>?_) (fun c2=>?_)
    ·have c2:4<dn:=c2
     have hc:BK l ⟨3,dn,AQ,Ab,AJ,AZ⟩=[Ac.mk 6 ((l.map De.cells).length:Nat) AQ]:=MC9
     refine MBA ?_
     exact Mf
    ·have c2:¬ 4<dn:=c2
     have hc:BK l ⟨3,dn,AQ,Ab,AJ,AZ⟩=[]:=MC2
     exact⟨Nat × List Ac,(fun x=>[(0, .p (Dw l)),(2, .p (i64 g)),(4, .ptr 0 0 0),(7, .sl 1 3 0 x.2.length),(8, .p (i64 (l.map De.cells).length)),(13, .p (i64 x.1))]),(fun x=>⟨2,[(1,Bz x.2),(0,Bl ⟨3,dn,AQ,Ab,AJ,AZ⟩)]⟩),(fun x=>x.1<=AJ.length/\x.2++Am l ⟨3,dn,AQ,Ab,AJ,AZ⟩ (AJ.take x.1) (AJ.drop x.1)=Ef l ⟨3,dn,AQ,Ab,AJ,AZ⟩++Am l ⟨3,dn,AQ,Ab,AJ,AZ⟩ [] AJ),(fun x=>AJ.length - x.1),⟨(0,[Ac.mk 2 ((l.map De.cells).length:Nat) AQ,Ac.mk 3 ((l.map De.cells).length:Nat) Ab]),⟨qL _,by show [Ac.mk 2 ((l.map De.cells).length:Nat) AQ,Ac.mk 3 ((l.map De.cells).length:Nat) Ab]++_=_;rw [E8,K9,Lv,hc];rfl⟩,AA [] [(1,6)] [] rfl (sk) (sk) rfl⟩,key.get⟩
   obtain⟨y1,y2,y3,y4,y5,hp⟩:=hp
   refine jy hp (fun hp=>?_) (fun hp=>?_)
   ·obtain⟨Lv,hp3,hp4⟩:=hp
    refine hp3.eq rfl ?_
    refine And.intro (fun _=>?_) (fun h=>absurd hp4 h)
    refine MJ ?_
    refine Gx (fun c1=>?_) (fun c1=>?_)
    ·have c1:dn<2:=c1
     have hc:BK l ⟨3,dn,AQ,Ab,AJ,AZ⟩=[Ac.mk 6 ((l.map De.cells).length:Nat) AQ]:=MDA
     refine MBA ?_
     refine MZ ?_
     exact M8
    have c1:¬ dn<2:=c1
    refine Gx (fun c2=>?_) (fun c2=>?_)
    ·have c2:4<dn:=c2
     have hc:BK l ⟨3,dn,AQ,Ab,AJ,AZ⟩=[Ac.mk 6 ((l.map De.cells).length:Nat) AQ]:=MC9
     refine MBA ?_
     refine MZ ?_
     exact M8
    ·exact M7
   ·obtain⟨Lv,hp3,hp4⟩:=hp
    refine hp3.eq rfl ?_
    refine And.intro (fun h=>absurd h hp4) (fun _=>?_)
    refine⟨MO,[Ac.cells (Ac.mk 4 ((l.map De.cells).length:Nat) Ab)],rfl,?_⟩
    refine⟨MG1,[Ac.cells (Ac.mk 2 ((l.map De.cells).length:Nat) AQ)],rfl,MKk,[Ac.cells (Ac.mk 2 ((l.map De.cells).length:Nat) AQ),Ac.cells (Ac.mk 4 ((l.map De.cells).length:Nat) Ab)],rfl,?_⟩
    refine MJ ?_
    refine Gx (fun c1=>?_) (fun c1=>?_)
    ·have c1:dn<2:=c1
     have hc:BK l ⟨3,dn,AQ,Ab,AJ,AZ⟩=[Ac.mk 6 ((l.map De.cells).length:Nat) AQ]:=MDA
     refine MBA ?_
     exact Me
    have c1:¬ dn<2:=c1
    refine Gx (fun c2=>?_) (fun c2=>?_)
    ·have c2:4<dn:=c2
     have hc:BK l ⟨3,dn,AQ,Ab,AJ,AZ⟩=[Ac.mk 6 ((l.map De.cells).length:Nat) AQ]:=MC9
     refine MBA ?_
     exact Me
    ·have c2:¬ 4<dn:=c2
     have hc:BK l ⟨3,dn,AQ,Ab,AJ,AZ⟩=[]:=MC2
     exact⟨Nat × List Ac,(fun x=>[(0, .p (Dw l)),(2, .p (i64 g)),(4, .ptr 0 0 0),(7, .sl 1 3 0 x.2.length),(8, .p (i64 (l.map De.cells).length)),(13, .p (i64 x.1))]),(fun x=>⟨2,[(1,Bz x.2),(0,Bl ⟨3,dn,AQ,Ab,AJ,AZ⟩)]⟩),(fun x=>x.1<=AJ.length/\x.2++Am l ⟨3,dn,AQ,Ab,AJ,AZ⟩ (AJ.take x.1) (AJ.drop x.1)=Ef l ⟨3,dn,AQ,Ab,AJ,AZ⟩++Am l ⟨3,dn,AQ,Ab,AJ,AZ⟩ [] AJ),(fun x=>AJ.length - x.1),⟨(0,[Ac.mk 2 ((l.map De.cells).length:Nat) AQ,Ac.mk 4 ((l.map De.cells).length:Nat) Ab]),⟨qL _,by show [Ac.mk 2 ((l.map De.cells).length:Nat) AQ,Ac.mk 4 ((l.map De.cells).length:Nat) Ab]++_=_;rw [E8,K9,Lv,hc];rfl⟩,AA [] [(1,6)] [] rfl (sk) (sk) rfl⟩,key.get⟩
 case k=>
  rintro⟨k,cur⟩ ⟨k1,k2⟩
  simp only [] at k1 k2
  have IL:cur.length<=400:=by
   exact MFG
  refine qA (fun m1=>?_) (fun m1=>?_)
  rotate_left
  ·have m1:¬ (k:Int)<((AJ.map Rf.cells).length:Nat):=m1
   rw [qB] at m1
   rw [qb ME,Am,qU] at k2
   refine⟨Nat × List Ac,fun x=>[(0, .p (Dw l)),(2, .p (i64 g)),(4, .ptr 0 0 0),(7, .sl 1 3 0 x.2.length),(8, .p (i64 (l.map De.cells).length)),(17, .p (i64 x.1))],fun x=>⟨2,[(1,Bz x.2),(0,Bl ⟨3,dn,AQ,Ab,AJ,AZ⟩)]⟩,fun x=>x.1<=AZ.length/\x.2++Bd l ⟨3,dn,AQ,Ab,AJ,AZ⟩ g (AZ.drop x.1)=cur++Bd l ⟨3,dn,AQ,Ab,AJ,AZ⟩ g AZ,fun x=>AZ.length - x.1,?_,?_⟩
   ·exact MDN
   rintro⟨j,cu⟩ ⟨j1,j2⟩
   simp only [] at j1 j2
   have SA:(cur++Bd l ⟨3,dn,AQ,Ab,AJ,AZ⟩ g AZ).length<=1000:=MEw
   refine qA (fun n1=>?_) (fun n1=>?_)
   rotate_left
   ·have n1:¬ (j:Int)<((AZ.map Cs.cells).length:Nat):=n1
    rw [qB] at n1
    rw [qb ME,show Bd l ⟨3,dn,AQ,Ab,AJ,AZ⟩ g []=[] from rfl,qU] at j2
    exact MCT
   have n1:(j:Int)<((AZ.map Cs.cells).length:Nat):=n1
   rw [qB] at n1
   have hj:j<AZ.length:=by omega
   have AO:=RF hj
   have hx:=(VQ _ (Aa IM hj)).ok
   rw [EO IM hj,Gf,<- qO,<- qO] at j2
   rw [<- j2,qD,qD] at SA
   generalize AZ.getD j IM=x at AO hx j2 SA
   obtain⟨⟨xo,xn,xr,xv,xf,xs,xa⟩,xw⟩:=x
   obtain⟨x1,x2,x3⟩:=hx
   simp only [] at x1 x2 x3 j2 SA
   have hr:=UB ⟨3,dn,AQ,Ab,AJ,AZ⟩ xw g x2 x3
   refine AR aCu MK ?_
   refine⟨_,MAH,?_⟩
   refine(UC l ⟨3,dn,AQ,Ab,AJ,AZ⟩ MGr hl DF _ (.mk xo xn xr xv xf xs xa) cu (qN _) x1 ME).holds.BB [] [(0,1)] rfl (sk) (sk) fun e0 H0 hq=>?_
   obtain⟨rfl,rfl⟩:=hq
   have BF:(cu++CG l ⟨3,dn,AQ,Ab,AJ,AZ⟩ (.mk xo xn xr xv xf xs xa)).length<=1000:=by omega
   generalize cu++CG l ⟨3,dn,AQ,Ab,AJ,AZ⟩ (.mk xo xn xr xv xf xs xa)=Ex at j2 BF ⊢
   refine⟨rfl,_,⟨3,(2,Bz Ex)::[(0,Bl ⟨3,dn,AQ,Ab,AJ,AZ⟩)]⟩,rfl,rfl,?_⟩
   refine AR aCv MK ?_
   refine⟨_,MAH,?_⟩
   by_cases Jt:KT ⟨3,dn,AQ,Ab,AJ,AZ⟩ xw g=true
   ·exact MBg
   ·exact MBk
  have m1:(k:Int)<((AJ.map Rf.cells).length:Nat):=m1
  rw [qB] at m1
  have hk:k<AJ.length:=by omega
  have AO:=G7 hk
  have hxn:=hrn _ (Aa Bu hk)
  have BJ:Am l ⟨3,dn,AQ,Ab,AJ,AZ⟩ (AJ.take k) (AJ.drop k)=(if AJ.getD k Bu∈AJ.take k then [⟨2,((l.map De.cells).length:Nat),(AJ.getD k Bu).name⟩] else [])++(Dm (IE l ⟨3,dn,AQ,Ab,AJ,AZ⟩ (AJ.getD k Bu)) ((l.map De.cells).length:Nat) (AJ.getD k Bu).name++Am l ⟨3,dn,AQ,Ab,AJ,AZ⟩ (AJ.take (k+1)) (AJ.drop (k+1))):=by
   exact MIy
  generalize AJ.getD k Bu=x at AO hxn BJ
  have Gn:=Xe l ⟨3,dn,AQ,Ab,AJ,AZ⟩ x hxn hl DF
  have bG:=Xf l ⟨3,dn,AQ,Ab,AJ,AZ⟩ x
  generalize IE l ⟨3,dn,AQ,Ab,AJ,AZ⟩ x=kk at Gn bG BJ
  refine⟨Nat × Bool,fun y=>[(0, .p (Dw l)),(2, .p (i64 g)),(4, .ptr 0 0 0),(7, .sl 1 3 0 cur.length),(8, .p (i64 (l.map De.cells).length)),(13, .p (i64 k)),(14, .p (.bool y.2)),(15, .p (i64 y.1))],fun _=>⟨2,[(1,Bz cur),(0,Bl ⟨3,dn,AQ,Ab,AJ,AZ⟩)]⟩,fun y=>y.1<=k/\y.2=decide (x∈AJ.take y.1),fun y=>k - y.1,?_,?_⟩
  ·exact MAg
  exact MDB
theorem aNJ (l:List De) (dn:Int) (AQ Ab:List UInt8) (AJ:List Rf) (AZ:List Cs) (g:Int):Pure cx 89 [Dw l,(De.mk 1 dn AQ Ab AJ AZ).pv,i64 g] (·=.ret [XQ (Dx l ⟨1,dn,AQ,Ab,AJ,AZ⟩ g)]):=by
 have hm:(l.map De.cells).length=l.length:=qB ..
 obtain⟨R,hR⟩:∃ R,R=Dx l ⟨1,dn,AQ,Ab,AJ,AZ⟩ g:=MX
 rw [<- hR]
 rw [Dx,qM rfl] at hR
 try simp only [] at hR
 refine MFi ?_
 refine MJ ?_
 refine qA (fun h0=>?_) (fun h0=>?_)
 ·have h0:(0:Int)<((l.map De.cells).length:Nat):=h0
  rw [hm] at h0
  rw [qM (.inl ME)] at hR
  exact MB6
 have h0:¬ (0:Int)<((l.map De.cells).length:Nat):=h0
 rw [hm] at h0
 refine qA (fun h1=>?_) (fun h1=>?_)
 ·have h1:dn<1:=h1
  rw [qM (.inr (.inl h1))] at hR
  exact MB6
 have h1:¬ dn<1:=h1
 refine qA (fun h2=>?_) (fun h2=>?_)
 ·have h2:60<dn:=h2
  rw [qM (.inr (.inr h2))] at hR
  exact MB6
 ·have h2:¬ 60<dn:=h2
  rw [qG ME] at hR
  exact AL (XQ []) rfl (.inr (.inr MKC)) MJD
structure DcZ (d:De):Prop where
 two:d.kind=2->d.refs=[]/\d.cases=[]
 four:d.kind=4->d.cases=[]
theorem aKR {d:De} (h:Bg d=true):DcZ d:=by
 simp only [Bg,qC] at h
 have h4:=h.2
 unfold BP at h4
 refine⟨fun k=>?_,fun k=>?_⟩
 ·rw [qG ME,qM k] at h4
  simp only [qC,qJ] at h4
  exact⟨qY h4.1.2,qY h4.2⟩
 ·rw [qG MDV,qG MBc,qG ME,qM k] at h4
  simp only [qC,qJ] at h4
  exact qY h4.2
theorem aNK {l:List De} {d:De} {g:Int} (hk:¬ d.kind=1) (_ho:bH d) (hz:DcZ d):Dx l d g=Ef l d++(Am l d [] d.refs++Bd l d g d.cases):=by
 rw [Dx,Ef,qG hk]
 by_cases k2:d.kind=2
 ·rw [qM k2,qM k2,(hz.two k2).1,(hz.two k2).2,Am,Jm]
  show _=_++([]++[])
  rw [qU,qU]
 rw [qG k2,qG k2]
 by_cases k3:d.kind=3
 ·rw [qM k3,qM k3,qO,qO]
 rw [qG k3,qG k3]
 by_cases k4:d.kind=4
 ·rw [qM k4,qM k4,hz.four k4,qO]
  show _=_++(_++(_++[]))
  rw [qU]
 ·rw [qG k4,qG k4];rfl
theorem aNI (l:List De) (d:De) (g:Int) (hd:DcV d) (hz:DcZ d) (hl:l.length<=1000) (DF:∀ d∈l,bH d):Pure cx 89 [Dw l,d.pv,i64 g] (·=.ret [XQ (Dx l d g)]):=by
 obtain⟨dk,dn,AQ,Ab,AJ,AZ⟩:=d
 have WJ:=hd.ok.ok.kind
 have he:=fun hk=>aNK (l:=l) (g:=g) (d:=⟨dk,dn,AQ,Ab,AJ,AZ⟩) hk hd.ok.ok hz
 rcases WJ with h | h | h | h | h
 ·have h:dk=1:=h
  subst h
  exact aNJ l dn AQ Ab AJ AZ g
 ·have h:dk=2:=h
  subst h
  rw [he (show ¬ (2:Int)=1 from ML)]
  exact aNL l dn AQ Ab AJ AZ g hd hl DF
 ·have h:dk=3:=h
  subst h
  rw [he (show ¬ (3:Int)=1 from ML)]
  exact aNM l dn AQ Ab AJ AZ g hd hl DF
 ·have h:dk=4:=h
  subst h
  rw [he (show ¬ (4:Int)=1 from ML)]
  exact aNN l dn AQ Ab AJ AZ g hd hl DF
 ·have h:dk=5:=h
  subst h
  rw [he (show ¬ (5:Int)=1 from ML)]
  exact aNO l dn AQ Ab AJ AZ g hd hl DF
structure WI (W P:Nat):Prop where
 eq:W<=1024->W=P
 big:1024<W->1024<P
 hi:W<=4096
abbrev aNQ:OT:=(.pure 0 (.pure 1 (.pure 2 (.pure 3 (.pure 4 (.pure 5 (.A8 6 [] (.pure 7 .fin) .nil)))))))
theorem aNH (ds:List De) (hlen:ds.length<=30) (DF:∀ d∈ds,bH d) {g:Int} (Bt:EP g [] ds=[]):Pure cx 90 [JV ds] (·=.ret [.bool (IC ds)]):=by
 have hm:(ds.map De.cells).length=ds.length:=qB ..
 refine pure_of_vc Tryz.func90 rfl rfl rfl ?_
 refine⟨Nat × Nat,fun x=>[(1, .ptr 0 0 0),(3, .p (i64 (Ao [] (ds.take x.1):Nat))),(4, .p (i64 (Bn (ds.take x.1):Nat))),(5, .p (i64 (x.2:Nat))),(6, .p (i64 x.1))],fun _=>⟨1,[(0,scO ds)]⟩,fun x=>x.1<=ds.length/\Ao [] (ds.take x.1)<=6 * x.1/\WI x.2 (BG [] (ds.take x.1)),fun x=>ds.length - x.1,?_,?_⟩
 ·exact⟨(0,1),⟨qL _,qL _,⟨fun _=>rfl,fun h=>absurd h MBM,ML⟩⟩,AA [] [] [] rfl (sk) (sk) rfl⟩
 rintro⟨k,W⟩ ⟨k1,k2,k3⟩
 simp only [] at k1 k2 k3
 have hW4:=k3.hi
 refine qA (fun m1=>?_) (fun m1=>?_)
 rotate_left
 ·have m1:¬ (k:Int)<((ds.map De.cells).length:Nat):=m1
  rw [hm] at m1
  obtain⟨B,hB⟩:∃ B,B=IC ds:=MX
  rw [<- hB]
  have et:ds.take k=ds:=Ar ME
  have e1:=k3.eq
  have e2:=k3.big
  rw [et] at e1 e2
  rw [IC] at hB
  refine qA (fun b0=>?_) (fun b0=>?_)
  ·have b0:((Ao [] (ds.take k):Nat):Int)<1:=b0
   rw [et] at b0
   rw [qE (show Ao [] ds<1 by omega),vU] at hB
   exact MGD
  have b0:¬ ((Ao [] (ds.take k):Nat):Int)<1:=b0
  rw [et] at b0
  rw [qF (show ¬ Ao [] ds<1 by omega),jC] at hB
  refine qA (fun b1=>?_) (fun b1=>?_)
  ·have b1:(8:Int)<((Ao [] (ds.take k):Nat):Int):=b1
   rw [et] at b1
   rw [qE (show 8<Ao [] ds by omega),vU] at hB
   exact MGD
  have b1:¬ (8:Int)<((Ao [] (ds.take k):Nat):Int):=b1
  rw [et] at b1
  rw [qF (show ¬ 8<Ao [] ds by omega),jC] at hB
  refine qA (fun b2=>?_) (fun b2=>?_)
  ·have b2:(4:Int)<((Bn (ds.take k):Nat):Int):=b2
   rw [et] at b2
   rw [qE (show 4<Bn ds by omega),vU] at hB
   exact MGD
  have b2:¬ (4:Int)<((Bn (ds.take k):Nat):Int):=b2
  rw [et] at b2
  rw [qF (show ¬ 4<Bn ds by omega),jC] at hB
  refine qA (fun b3=>?_) (fun b3=>?_)
  ·have b3:(1024:Int)<((W:Nat):Int):=b3
   have:=e2 ME
   rw [qE this] at hB
   exact MGD
  ·have b3:¬ (1024:Int)<((W:Nat):Int):=b3
   have:=e1 ME
   rw [qF (show ¬ 1024<BG [] ds by omega)] at hB
   exact MGD
 have m1:(k:Int)<((ds.map De.cells).length:Nat):=m1
 rw [hm] at m1
 have hk:k<ds.length:=by omega
 have AO:=Fj hk
 have h1:=JU ds [] Bt k hk
 rw [kg] at h1
 have Jj:=fun h=>ND (d:=ds.getD k Aj) h1 h
 obtain⟨sN,sW,sG⟩:=Zb hk
 have hgl:Bn (ds.take k)<=30:=MGQ
 have Zc:=fun h3 hp=>size_pos Bt hk h3 hp
 have hSz:=fun (p:List UInt8) (hp:p ≠ [])=>nU (ds.take k) hp MEM fun d hd=>DF d (kQ hd)
 generalize ds.getD k Aj=d at AO Jj sN sW sG Zc
 obtain⟨dk,dn,AQ,Ab,AJ,AZ⟩:=d
 simp only [bW] at sN sW sG Jj Zc
 refine⟨_,MAR,?_⟩
 refine qA (fun q3=>?_) (fun q3=>?_)
 ·have q3:dk=3:=q3
  rw [qM q3] at sN sW
  rw [qG ME] at sG
  have hG:Bn (ds.take (k+1))=Bn (ds.take k):=sG
  refine And.intro (fun hp=>?_) (fun hp=>?_)
  ·have hp:Ab=[]:=hp
   rw [qM hp] at sN sW
   have hN:=sN
   have hq:1<=1->2<=dn/\dn<=4:=fun _=>Jj (.inl q3)
   exact MBa
  ·have hp:¬ Ab=[]:=hp
   rw [qG hp] at sN sW
   have hs:=Zc q3 hp
   have hS:=hSz Ab hp
   obtain⟨m,hme⟩:∃ m:Nat,DL (ds.take k) Ab=(m:Nat):=MJh
   rw [hme] at hS
   rw [hme,kL] at sN sW
   have hN:=sN
   have hq:1<=m->2<=dn/\dn<=4:=fun _=>Jj (.inl q3)
   have hm6:m<=6:=by omega
   have ea:[Dw (ds.take k),PV.str Ab]=[PV.Ai 6 ((ds.map De.cells).take ((k:Nat):Int).toNat), .str Ab]:=by show [PV.Ai 6 ((ds.take k).map De.cells),_]=_;rw [jJ];rfl
   rw [ea] at hS
   refine AR aNQ MK ?_
   refine⟨MGH,?_⟩
   refine hS.eq rfl ?_
   refine⟨((Ao [] (ds.take k)+m:Nat):Int),MAz,?_⟩
   refine⟨Nat × Nat,fun y=>[(1, .ptr 0 0 0),(3, .p (i64 (Ao [] (ds.take k)+m:Nat))),(4, .p (i64 (Bn (ds.take k):Nat))),(5, .p (i64 (y.2:Nat))),(6, .p (i64 k)),(7, .ptr 1 0 0),(8, .p (i64 (m:Nat))),(9, .p (i64 y.1))],fun _=>⟨2,[(1,Bl ⟨dk,dn,AQ,Ab,AJ,AZ⟩),(0,scO ds)]⟩,fun y=>y.1<=m/\WI y.2 (BG [] (ds.take k) * dn.toNat ^ y.1),fun y=>m - y.1,?_,?_⟩
   ·exact MDC
   rintro⟨j,V⟩ ⟨j1,j2⟩
   simp only [] at j1 j2
   have hV4:=j2.hi
   refine qA (fun n1=>?_) (fun n1=>?_)
   rotate_left
   ·have n1:¬ (j:Int)<(m:Nat):=n1
    have nE:j=m:=by omega
    have hV:WI V (BG [] (ds.take (k+1))):=by rw [sW,<- nE];exact j2
    refine MAs ?_
    exact MAw
   have n1:(j:Int)<(m:Nat):=n1
   have hd:=hq ME
   refine qA (fun n2=>?_) (fun n2=>?_)
   ·have n2:((V:Nat):Int)<=1024:=n2
    have hVe:=j2.eq ME
    have hmul:((V:Nat):Int) * dn=((V * dn.toNat:Nat):Int):=by rw [xS,show((dn.toNat:Nat):Int)=dn by omega]
    have hle:V * dn.toNat<=1024 * 4:=jS MBc ME
    refine⟨((V * dn.toNat:Nat):Int),by rw [<- hmul];exact wrap_i64 MBc ME,?_⟩
    refine MAs ?_
    exact⟨(j+1,V * dn.toNat),⟨by show j+1<=m;omega,by show WI (V * dn.toNat) (_ * dn.toNat ^ (j+1));rw [jb,<- vH,<- hVe];exact⟨fun _=>rfl,fun h=>h,hle⟩⟩,AA [] [] [] rfl (sk) (sk) rfl,by show m - (j+1)<m - j;omega⟩
   ·have n2:¬ ((V:Nat):Int)<=1024:=n2
    have hVb:=j2.big ME
    have hV:WI V (BG [] (ds.take (k+1))):=by
     refine⟨fun h=>by omega,fun _=>?_,hV4⟩
     rw [sW]
     exact xQ hVb (xq _ (kY ME j1))
    refine MAs ?_
    exact MAw
 have q3:¬ dk=3:=q3
 rw [qG q3] at sN sW
 refine qA (fun q4=>?_) (fun q4=>?_)
 ·have q4:dk=4:=q4
  rw [qM q4] at sN sW
  rw [qG ME] at sG
  have hG:Bn (ds.take (k+1))=Bn (ds.take k):=sG
  have hN:=sN
  have hq:1<=1->2<=dn/\dn<=4:=fun _=>Jj (.inr q4)
  exact MBa
 have q4:¬ dk=4:=q4
 rw [qG q4] at sN sW
 have hN:=sN
 have hq:1<=0->2<=dn/\dn<=4:=fun h=>absurd h ML
 refine qA (fun q5=>?_) (fun q5=>?_)
 ·have q5:dk=5:=q5
  rw [qM q5] at sG
  have hG:=sG
  refine⟨((Bn (ds.take k)+1:Nat):Int),MAz,?_⟩
  refine MGL ?_
  refine⟨Nat × Nat,fun y=>[(1, .ptr 0 0 0),(3, .p (i64 (Ao [] (ds.take k)+0:Nat))),(4, .p (i64 (Bn (ds.take k)+1:Nat))),(5, .p (i64 (y.2:Nat))),(6, .p (i64 k)),(7, .ptr 1 0 0),(8, .p (i64 (0:Nat))),(9, .p (i64 y.1))],fun _=>⟨2,[(1,Bl ⟨dk,dn,AQ,Ab,AJ,AZ⟩),(0,scO ds)]⟩,fun y=>y.1<=0/\WI y.2 (BG [] (ds.take k) * dn.toNat ^ y.1),fun y=>0 - y.1,?_,?_⟩
  ·exact MDC
  exact MBr
 ·have q5:¬ dk=5:=q5
  rw [qG q5] at sG
  have hG:Bn (ds.take (k+1))=Bn (ds.take k):=sG
  refine MGL ?_
  refine⟨Nat × Nat,fun y=>[(1, .ptr 0 0 0),(3, .p (i64 (Ao [] (ds.take k)+0:Nat))),(4, .p (i64 (Bn (ds.take k):Nat))),(5, .p (i64 (y.2:Nat))),(6, .p (i64 k)),(7, .ptr 1 0 0),(8, .p (i64 (0:Nat))),(9, .p (i64 y.1))],fun _=>⟨2,[(1,Bl ⟨dk,dn,AQ,Ab,AJ,AZ⟩),(0,scO ds)]⟩,fun y=>y.1<=0/\WI y.2 (BG [] (ds.take k) * dn.toNat ^ y.1),fun y=>0 - y.1,?_,?_⟩
  ·exact MDC
  exact MBr
abbrev aRL:OT:=(.pure 0 (.pure 1 (.pure 2 (.pure 3 (.pure 4 (.pure 5 (.pure 6 (.pure 7 (.pure 8 (.pure 9 (.pure 10 (.A8 11 [] (.A8 12 [] (.pure 13 .fin) .nil) .nil))))))))))))
theorem aKQ {ds:List De} (h:CK ds=true):∀ d∈ds,DcZ d:=fun d hd=>aKR ((Zf h).2 d hd)
abbrev raH (ds:List De) (x:Nat × List Ac):Hp:=⟨2,[(1,Bz x.2),(0,scO ds)]⟩
theorem aNG (ds:List De) (hv:CK ds=true):Pure cx 54 [JV ds] (·=.ret [XQ (allI ds)]):=by
 obtain⟨hlen,hdv⟩:=QX hv
 have hz:=aKQ hv
 have DF:∀ d∈ds,bH d:=fun d hd=>(hdv d hd).ok.ok
 have hm:(ds.map De.cells).length=ds.length:=qB ..
 have E8:∀ k,(Fe ds++EP (BD ds) [] (ds.take k)).length<=13000:=fun k=>by
  exact MGF
 refine pure_of_vc Tryz.func54 rfl rfl rfl ?_
 apply cut
 case h=>
  intro key
  by_cases h0:ds=[]
  ·have hh:Fe ds=[⟨1,0,[]⟩]:=by rw [h0];rfl
   have hg:BD ds=0:=by rw [h0];rfl
   refine MIk ?_
   exact MB2
  ·have nC:1<=ds.length:=by
    exact MIN
   have hh:∃ t:De,(ds.map De.cells)[0]?=some t.cells/\(Fe ds=if t.kind=1 then [] else [⟨1,0,[]⟩])/\(BD ds=if t.kind=1 then t.n else 0):=by
    cases ds with
    | nil=>exact absurd rfl h0
    | cons t r=>exact⟨t,rfl,rfl,rfl⟩
   obtain⟨⟨tk,tn,tnm,LA,trs,tcs⟩,ht,hh,hg⟩:=hh
   refine MHu ?_
   refine⟨_,ME9,?_⟩
   refine And.intro (fun k1=>?_) (fun k1=>?_)
   ·have k1:tk=1:=k1
    simp only [qM k1] at hh hg
    refine⟨_,ME9,?_⟩
    exact⟨Nat × List Ac,fun x=>[(1, .ptr 0 0 0),(3, .sl 1 3 0 x.2.length),(4, .p (i64 (BD ds))),(5, .p (i64 x.1))],raH ds,fun x=>x.1<=ds.length/\x.2=Fe ds++EP (BD ds) [] (ds.take x.1),fun x=>ds.length - x.1,⟨(0,[]),⟨qL _,by show _=Fe ds++[];rw [qU,hh]⟩,AA [] [] [(1,3)] rfl ⟨MC,sk,qH (fun z:Int=>i64 z) hg,rfl,trivial⟩ (sk) rfl⟩,key.get⟩
   ·have k1:¬ tk=1:=k1
    simp only [qG k1] at hh hg
    exact MB2
 case k=>
  rintro⟨k,cur⟩ ⟨k1,k2⟩
  simp only [] at k1 k2
  have IL:cur.length<=13000:=by rw [k2];exact E8 k
  refine qA (fun m1=>?_) (fun m1=>?_)
  rotate_left
  ·have m1:¬ (k:Int)<((ds.map De.cells).length:Nat):=m1
   rw [hm] at m1
   rw [show ds.take k=ds from Ar ME] at k2
   obtain⟨R,hR⟩:∃ R,R=allI ds:=MX
   rw [<- hR]
   by_cases hb:cur=[]
   ·subst hb
    have Bt:EP (BD ds) [] ds=[]:=(qm.1 k2.symm).2
    have hRa:R=if IC ds then [⟨10,ds.length,[]⟩] else []:=MJo
    have hB:=aNH ds hlen DF Bt
    refine MJ ?_
    by_cases hbg:IC ds=true
    ·rw [qM hbg] at hRa
     rw [hbg] at hB
     refine hB.eq rfl ?_
     refine⟨MO,[Ac.cells (Ac.mk 10 ((ds.map De.cells).length:Nat) [])],rfl,?_⟩
     refine⟨MLA,[],rfl,by show(0+1) * 32<=140737488355328;decide,[Ac.cells (Ac.mk 10 ((ds.map De.cells).length:Nat) [])],rfl,?_⟩
     exact AL (XQ [Ac.mk 10 ((ds.map De.cells).length:Nat) []]) rfl ⟨_,rfl,MG1,rfl⟩ (by rw [hRa,hm])
    ·rw [qG hbg] at hRa
     rw [qQ] at hbg
     rw [hbg] at hB
     refine hB.eq rfl ?_
     exact AL (XQ []) rfl ⟨_,rfl,MLA,rfl⟩ (by rw [hRa])
   ·have hRa:R=cur:=by
     exact MII
    have hl0:¬ cur.length=0:=fun e=>hb (qY e)
    refine MKV ?_
    exact AL (XQ cur) rfl ⟨_,rfl,MFX,AB MBV⟩ (by rw [hRa])
  have m1:(k:Int)<((ds.map De.cells).length:Nat):=m1
  rw [hm] at m1
  have hk:k<ds.length:=by omega
  have AO:=Fj hk
  have hd:=hdv _ (Aa Aj hk)
  have hdz:=hz _ (Aa Aj hk)
  have hO:=aNI (ds.take k) (ds.getD k Aj) (BD ds) hd hdz MEM fun d hd=>DF d (kQ hd)
  have hln:=wT (ds.take k) (BD ds) hd
  have k4:cur++Dx (ds.take k) (ds.getD k Aj) (BD ds)=Fe ds++EP (BD ds) [] (ds.take (k+1)):=by rw [gU hk,<- qO,<- k2]
  generalize Dx (ds.take k) (ds.getD k Aj) (BD ds)=X at hO hln k4
  generalize ds.getD k Aj=d at AO hO
  obtain⟨dk,dn,AQ,Ab,AJ,AZ⟩:=d
  have ea:[Dw (ds.take k),(De.mk dk dn AQ Ab AJ AZ).pv,i64 (BD ds)]=[PV.Ai 6 ((ds.map De.cells).take ((k:Nat):Int).toNat),(De.mk dk dn AQ Ab AJ AZ).pv,i64 (BD ds)]:=by show [PV.Ai 6 ((ds.take k).map De.cells),_,_]=_;rw [jJ];rfl
  rw [ea] at hO
  refine AR aRL MK ?_
  refine⟨MGH,?_⟩
  refine⟨_,MAR,?_⟩
  refine hO.eq rfl ?_
  refine⟨MFX,cur.map Ac.cells,AB MBV,by show(cur.length+(X.map Ac.cells).length) * 32<=140737488355328;rw [qB];omega,(cur++X).map Ac.cells,by rw [qX],?_⟩
  refine MAs ?_
  exact⟨(k+1,cur++X),⟨by show k+1<=ds.length;omega,k4⟩,AA [] [(1,2)] [] rfl ⟨MC,qH (fun j:Nat=>AV.sl 2 3 0 j) (by rw [qD,qB]),rfl,rfl,trivial⟩ (sk) rfl,MC5⟩
theorem aEv (ds:List De) (hb:NH ds):Pure cx 31 [JV ds] (·=.ret [i64 (Bj ds)]):=by
 have hC:=aOx ds hb
 by_cases hv:CK ds=true
 ·have hA:=aNG ds hv
  rw [hv] at hC
  by_cases hn:allI ds=[]
  ·have hs:Bj ds=0:=by rw [Bj,qM hv,qM hn]
   rw [hs]
   rw [hn] at hA
   refine pure_of_vc Tryz.func31 rfl rfl rfl ?_
   refine hC.eq rfl ?_
   refine hA.eq rfl ?_
   refine MD9 ?_
   exact MAl
  ·have hs:Bj ds=390:=by rw [Bj,qM hv,qG hn]
   have hl:1<=(allI ds).length:=zJ.2 hn
   rw [hs]
   generalize allI ds=R at hA hl
   refine pure_of_vc Tryz.func31 rfl rfl rfl ?_
   refine hC.eq rfl ?_
   refine hA.eq rfl ?_
   exact MFp
 ·have hs:Bj ds=380:=by rw [Bj,qG hv]
  rw [hs]
  rw [qQ] at hv
  rw [hv] at hC
  refine pure_of_vc Tryz.func31 rfl rfl rfl ?_
  refine hC.eq rfl ?_
  exact MAl
def L6 (ds:List De):List PV:=if Bj ds=0 then [.agg (Ap ds).cells,i64 0] else [.agg (Gr.mk [] 0 [] 0 []).cells,i64 (Bj ds)]
theorem EY {ds:List De} (h:Bj ds=0):BN ds:=by
 unfold Bj at h
 split at h
 ·split at h
  ·exact⟨‹_›,‹_›⟩
  ·omega
 ·omega
theorem aEs {ds:List De} (h:BN ds):Bj ds=0:=by rw [Bj,qM h.valid,qM h.clean]
theorem aKO:BL [PV.Ad,i64 0, .Ad, .int .u64 0, .Ad] (Gr.mk [] 0 [] 0 []).cells:=
 ⟨_,_,rfl, .inr (.inl rfl),_,_,rfl,rfl,_,_,rfl, .inr (.inr MKC),_,_,rfl,rfl,_,_,rfl, .inr (.inr ⟨2,rfl⟩),rfl⟩
structure Nt where
 BS:Int
 nodes:List Nd
abbrev Nt.cells (n:Nt):List PV:=[i64 n.BS, .Ai 3 (n.nodes.map Nd.cells)]
def EN (ds:List De):Bool:=ds.all fun d=>decide (¬ (d.kind=4∨d.kind=5))
def aJN (ds:List De):List PV:=if Bj ds=0 then(if EN ds=true then [.agg (Nt.mk (Ap ds).BS (Ap ds).nodes).cells,i64 0] else [.agg (Nt.mk 0 []).cells,i64 2]) else [.agg (Nt.mk 0 []).cells,i64 (Bj ds)]
theorem aCs:BL [i64 0, .Ad] (Nt.mk 0 []).cells:=⟨_,_,rfl,rfl,_,_,rfl, .inr (.inr MKC),rfl⟩
theorem Un:∀ (l:List Mb) (i:Nat),(Ho l i=0 ↔ ∀ m∈l,¬ m.d.kind=4)
 | [],i=>⟨fun _ m hm=>(by cases hm),fun _=>rfl⟩
 | m::r,i=>by
  rw [Ho]
  have:=Nat.two_pow_pos i
  have ih:=Un r (i+1)
  constructor
  ·intro h x hx
   rcases qw.1 hx with rfl | hx
   ·intro e;rw [qM e] at h;omega
   ·exact ih.1 ME x hx
  ·intro h
   rw [qG (h m (kC ..)),ih.2 fun x hx=>h x (qh _ hx)]
theorem aDj {ds:List De} (h:BN ds):EN ds=true ↔ (Ho (AY ds ds) 0=0/\ds.filter (fun d=>decide (d.kind=5))=[]):=by
 rw [Un,EN,qi,xu]
 constructor
 ·intro k
  refine⟨fun m hm e=>?_,fun d hd e=>?_⟩
  ·have:=k _ (X9 hm).1
   rw [qJ] at this
   exact this (.inl e)
  ·have:=k d hd
   rw [qJ] at this e
   exact this (.inr e)
 ·rintro⟨k1,k2⟩ d hd
  rw [qJ]
  rintro (e | e)
  ·obtain⟨j,hj,rfl⟩:=I7 Aj hd
   have hp:=(h.ok hj).Ae ME
   have hm:(⟨ds.getD j Aj,0,(ds.getD j Aj).name⟩:Mb)∈AY ds ds:=jV.2 ⟨_,hd,by rw [EB,qM (.inr e),qM hp];exact qP.2 rfl⟩
   exact k1 _ hm e
  ·exact k2 d hd (qE e)
theorem BN.grz {ds:List De} (h:BN ds):GrZ (Ap ds):=by
 obtain⟨he1,he8⟩:=h.eight
 have hp8:∀ refs idx,(Dn (AY ds ds) refs idx).length<=8:=fun refs idx=>by
  have:=xH (fun i=>refs.any fun r=>pz ((AY ds ds).getD i FO) r idx) (List.range (AY ds ds).length)
  exact MKN
 have hrl:∀ cs idx refs aNF,(DU (AY ds ds) cs idx (Dn (AY ds ds) refs aNF) (DV (AY ds ds).length)).length<=65536:=fun cs idx refs aNF=>
  kG (QT (AY ds ds) cs idx _ _ fun i hi=>(h.card (Aa FO (IJ i hi))).2) (kG (kY MBM (hp8 refs aNF)) ML)
 refine⟨?_,?_,fun x hx=>?_,?_,fun x hx=>?_⟩
 ·show((AY ds ds).map Mb.name).length<=_
  rw [qB];omega
 ·show((AY ds ds).map (EM (AY ds ds))).length<=_
  rw [qB];omega
 ·obtain⟨m,hm,rfl⟩:=qz.1 hx
  obtain⟨j,hj,hd,hk,_⟩:=h.member hm
  refine⟨by show(Dn _ _ _).length<=_;have:=hp8 m.d.refs m.idx;omega,?_,?_⟩
  ·show(if m.d.kind=4 then [] else _).length<=_
   split
   ·simp
   ·have:=hrl m.d.cases m.idx m.d.refs m.idx;omega
  ·show ∀ r∈(if m.d.kind=4 then [] else _),_
   split
   ·intro r hr;cases hr
   ·rename_i h4
    intro r hr
    rw [hd] at hr h4
    obtain⟨c,hc,rfl⟩:=h.rows hj (.inl ME) hr
    have:=(h.case hj (.inl ME) hc).2.2.2
    omega
 ·show((ds.filter fun d=>decide (d.kind=5)).map (G5 (AY ds ds))).length<=_
  rw [qB]
  have:=xH (fun d:De=>decide (d.kind=5)) ds
  have:=h.len.2
  omega
 ·obtain⟨d,hd,rfl⟩:=qz.1 hx
  refine⟨by show(Dn _ _ _).length<=_;have:=hp8 d.refs 0;omega,?_⟩
  show((DU _ _ _ _ _).map _).length<=_
  rw [qB]
  have:=hrl d.cases 0 d.refs 0
  omega
theorem aHm (l:List Int) (n:Nat) (hl:l.length<=1000) (h:LG n l):Pure cx 84 [ints l,i64 (n:Nat)] (·=.ret [.bool true]):=by
 have hm:(l.map i64).length=l.length:=qB ..
 refine pure_of_vc Tryz.func84 rfl rfl rfl ?_
 refine⟨Nat,fun k=>[(1, .p (i64 (n:Nat))),(5, .p (i64 (H6 l k))),(8, .p (ints l)),(9, .p (i64 l.length)),(10, .p (i64 k))],fun _=>⟨0,[]⟩,fun k=>k<=l.length,fun k=>l.length - k,?_,?_⟩
 ·exact MFI
 intro k hk
 refine qA (fun m1=>?_) (fun m1=>?_)
 rotate_left
 ·exact MAl
 have m1:(k:Int)<(l.length:Nat):=m1
 have J2:k<l.length:=by omega
 obtain⟨h1,h2⟩:=h k J2
 refine⟨_,⟨by omega,i64 (l.getD k 0),Ff J2,rfl⟩,?_⟩
 refine And.intro (fun e=>absurd (show l.getD k 0<=H6 l k from e) ME) (fun _=>?_)
 refine And.intro (fun e=>absurd (show(n:Int)<=l.getD k 0 from e) ME) (fun _=>?_)
 refine MAs ?_
 refine⟨k+1,by show k+1<=l.length;omega,AA [] [] [] rfl ⟨rfl,?_,rfl,rfl,rfl,trivial⟩ trivial rfl,MDE⟩
 show i64 (H6 l (k+1))=i64 (l.getD k 0)
 rw [H6,qG ME,xE]
theorem iR (l:List Int) (hl:l.length<=100000):Pure cx 85 [ints l] (·=.ret [ints l]):=by
 refine pure_of_vc Tryz.func85 rfl rfl rfl ?_
 refine And.intro ?_ (fun h=>?_)
 ·refine⟨by show 0+0<=0;omega,[],rfl,by show(0+(l.map i64).length) * 8<=140737488355328;rw [qB];omega,l.map i64,rfl,?_⟩
  exact AL (ints l) rfl ⟨_,rfl,by show 0+(0+(l.map i64).length)<=(l.map i64).length;omega,AB ME⟩ rfl
 ·have h:l.map i64=[]:=h
  rw [List.map_eq_nil_iff] at h
  subst h
  exact AL (ints []) rfl (.inr (.inl rfl)) rfl
theorem Eo {l:List Int} (h:∀ c∈l,Hz c) (hl:l.length<=8) {k:Nat} (hk:k<=l.length):1<=Cf (l.take k)/\Cf (l.take k)<=65536:=by
 obtain⟨h1,h2⟩:=Nh h k hk
 have:=aHW k ME
 refine⟨h1,Int.le_trans h2 ?_⟩
 have:∀ i ≤ 8,(4:Int) ^ i<=65536:=ML
 exact this k ME
def ED (N:List Nd) (ps:List Nat):List Int:=ps.map fun p=>(N.getD p H5).card
theorem aPG (N:List Nd) (v:Nat) (hv:v<N.length) (_:N.length<=8) (hc:∀ x∈N,Hz x.card) (hp:(N.getD v H5).Jp.length<=8) (hi:∀ p∈(N.getD v H5).Jp,p<N.length) :
  Pure cx 86 [.Ai 3 (N.map Nd.cells),i64 (v:Nat)] (·=.ret [i64 (Cf (ED N (N.getD v H5).Jp))]):=by
 have AO:=Oq hv
 generalize N.getD v H5=x at AO hp hi
 obtain⟨xc,ps,xr⟩:=x
 have hp:ps.length<=8:=hp
 have hi:∀ p∈ps,p<N.length:=hi
 have hrl:(ED N ps).length=ps.length:=qB ..
 have PO:∀ c∈ED N ps,Hz c:=fun c Wi=>by
  exact MKO
 have hm:(ps.map fun i=>i64 ((i:Nat):Int)).length=ps.length:=qB ..
 refine pure_of_vc Tryz.func86 rfl rfl rfl ?_
 refine⟨_,⟨by omega,(Nd.mk xc ps xr).cells,by rw [kL];exact AO,rfl⟩,?_⟩
 refine⟨Nat,fun k=>[(0, .p (.Ai 3 (N.map Nd.cells))),(5, .p (i64 (Cf ((ED N ps).take k)))),(12, .p (EZ ps)),(13, .p (i64 ps.length)),(14, .p (i64 k))],fun _=>⟨0,[]⟩,fun k=>k<=ps.length,fun k=>ps.length - k,?_,?_⟩
 ·exact MFI
 intro k hk
 refine qA (fun m1=>?_) (fun m1=>?_)
 rotate_left
 ·have m1:¬ (k:Int)<(ps.length:Nat):=m1
  refine AL _ rfl rfl ?_
  rw [Ar ME]
 have m1:(k:Int)<(ps.length:Nat):=m1
 have J2:k<ps.length:=by omega
 have hq:=hi _ (Aa 0 J2)
 have hqc:=Oq hq
 have he:(ED N ps).getD k 0=(N.getD (ps.getD k 0) H5).card:=by
  rw [ED,qK,Ct 0 (f:=fun p=>(N.getD p H5).card) J2];rfl
 have LJ:=JG (l:=ED N ps) (k:=k) ME
 rw [he] at LJ
 have Vw:=Eo PO MBc (k:=k) ME
 have hb2:=Eo PO MBc (k:=k+1) ME
 have rA:(ps.map fun i=>i64 ((i:Nat):Int))[k]?=some (i64 ((ps.getD k 0:Nat):Int)):=Ct (f:=fun i:Nat=>i64 (i:Nat)) 0 J2
 generalize ps.getD k 0=q at hq hqc LJ rA
 generalize N.getD q H5=y at hqc LJ
 obtain⟨yc,yp,yr⟩:=y
 have LJ:Cf ((ED N ps).take (k+1))=Cf ((ED N ps).take k) * yc:=LJ
 refine⟨_,MKo,?_⟩
 refine⟨_,MHb,?_⟩
 refine⟨Cf ((ED N ps).take (k+1)),by rw [LJ];exact wrap_i64 MBc ME,?_⟩
 refine MAs ?_
 exact⟨k+1,by show k+1<=ps.length;omega,AA [] [] [] rfl (sk) trivial rfl,by show ps.length - (k+1)<ps.length - k;omega⟩
theorem aKX (g c:Int) (hc:1<=c/\c<=4):Pure cx 87 [i64 g,i64 c,i64 0] (·=.ret [ints (I8 g c)]):=by
 have:c=1∨c=2∨c=3∨c=4:=by omega
 rcases this with rfl | rfl | rfl | rfl
 all_goals
  refine pure_of_vc Tryz.func87 rfl rfl rfl ?_
  refine⟨MEl,MBM,ML,?_⟩
  exact AL (ints (I8 g _)) rfl ⟨_,rfl,qN _,rfl⟩ rfl
abbrev TW:TypeId:=136
def aKV:Ag:=⟨0,false, .df⟩
def lpO (st:LoopState) (pd:Option Code) (lim N:Nat) (σ:Sg) (ps:List Tmp) (ac bd:Code):Ag:=⟨0,false, .lp st pd lim N σ ps ac bd lim⟩
def bO (b:Bool):Ag:=⟨4,false, .bx [.p (.bool b)]⟩
def Qr (n:SI) (Bh:List Nat) (ord:PV):List PV:=[i64 n.BS, .Ai 3 (n.nodes.map EU.cells),Gh (BX n),wh Bh,ord]
def nwO (n:SI) (Bh:List Nat) (ord:PV):Ag:=⟨TW,false, .bx ((Qr n Bh ord).map .p)⟩
theorem aNT (x:EU):Pure cx 121 [x.pv] (·=.ret [.fn (.func 173) [] [.fp x.cells]]):=by
 refine pure_of_vc Tryz.func121 rfl rfl rfl ?_
 exact AL _ rfl ⟨rfl,_,_,rfl,rfl,⟨_,_,rfl,MIf,rfl⟩⟩ rfl
def flL (n:SI) (Bh:List Nat) (x:EU) (st:LoopState) (pd:Option Code) (N:Nat) (σ:Sg) (ps:List Tmp) (ac bd:Code):List (Nat × Ag):=
 [(4,lpO st pd 3 N σ ps ac bd),(3,aKV),(2,bO false),(1,aHV x),(0,nwO n Bh .Ad)]
theorem aKY (n:SI) (Bh:List Nat) (x:EU) (g c:Int) (hx:x.rows.length<=9223372036854775807) (N:Nat) (σ Wo:Sg) (ds:List AD) (ps:List Tmp) (ac bd:Code) (Q:KQ)
  (DF:(∀ r∈x.rows,bS g c r)->Q .normal Wo ds ⟨5,flL n Bh x .exhausted none N σ ps ac bd⟩)
  (Bt:¬ (∀ r∈x.rows,bS g c r)->Q .ret Wo ds ⟨5,flL n Bh x .exhausted (some .ret) N σ ps ac bd⟩)
  (Wq:∀ (k:Nat) (r:List Int) (K:AE->Hp->Prop),r∈x.rows->(bS g c r->K (.returned (vB true)) ⟨5,flL n Bh x .ready none N σ ps ac bd⟩)->(¬ bS g c r->K (.returned (vB false)) ⟨5,flL n Bh x .done (some .ret) N σ ps ac bd⟩)->Li cx 4 [.p (i64 k), .p (Gh r)] ⟨5,flL n Bh x .ready none N σ ps ac bd⟩ K) :
  A7 cx 173 [.fn (.yield 4) [] [], .p (.fp x.cells)] ⟨5,flL n Bh x .ready none N σ ps ac bd⟩ (Ro 4 Wo ds Q):=by
 refine holdsN_of_vc Tryz.func173 rfl rfl rfl ?_
 refine⟨Nat,fun k=>[(0, .fn (.yield 4) [] []),(6, .p (.Dh (x.rows.map Gh))),(7, .p (i64 x.rows.length)),(8, .p (i64 k))],fun _=>⟨5,flL n Bh x .ready none N σ ps ac bd⟩,
  fun k=>k<=x.rows.length/\∀ r∈x.rows.take k,bS g c r,fun k=>x.rows.length - k,?_,?_⟩
 ·exact⟨0,MGK,AA [] [] [] rfl ⟨⟨rfl,_,_,rfl,rfl,rfl⟩,rfl,aBP Gh x.rows,rfl,trivial⟩ MBv rfl⟩
 rintro k ⟨g1,g2⟩
 refine qA (fun h1=>?_) (fun h1=>?_)
 ·have h1:(k:Int)<(x.rows.length:Nat):=h1
  have hk:k<x.rows.length:=by omega
  obtain⟨r,hr⟩:∃ r,r=x.rows.getD k []:=MX
  have hrm:r∈x.rows:=by rw [hr];exact EK [] hk
  refine⟨_,⟨by omega,Gh r,by rw [hr];exact aND hk,rfl⟩,?_⟩
  refine Wq k r _ hrm (fun h=>?_) (fun h=>?_)
  ·refine⟨(k:Int)+1,wrap_i64 MBc ME,?_⟩
   exact⟨k+1,⟨by omega,Tz [] hk g2 (by rw [<- hr];exact h)⟩,AA [] [] [] rfl ⟨⟨rfl,_,_,rfl,rfl,rfl⟩,rfl,rfl,rfl,trivial⟩ MBv rfl,by show x.rows.length - (k+1)<x.rows.length - k;omega⟩
  ·exact⟨[],[],[], .returned Bv,⟨5,flL n Bh x .done (some .ret) N σ ps ac bd⟩,rfl,sk,MBv,Bt fun hh=>h (hh r hrm)⟩
 ·have h1:¬ (k:Int)<(x.rows.length:Nat):=h1
  rw [IA ME] at g2
  exact⟨[],[],[], .returned Bv,⟨5,flL n Bh x .ready none N σ ps ac bd⟩,rfl,sk,MBv,DF g2⟩
theorem aCx (l:List Int):∀ a:Int,l.foldl (·+·) a=a+Hq l:=by
 induction l with
 | nil=>intro a;simp [Hq]
 | cons x r ih=>intro a;rw [Hq,jG,jG,ih,ih (0+x)];omega
theorem Zy {l:List Int} (h:∀ w∈l,0<=w):0<=Hq l:=by
 induction l with
 | nil=>simp [Hq]
 | cons x r ih=>
  have h1:=h x MBV
  have h2:=ih fun w hw=>h w (by simp [hw])
  rw [Hq,jG,aCx];omega
theorem aEz (l:List Int) (k:Nat):Hq l=Hq (l.take k)+Hq (l.drop k):=by
 conv=>lhs;rw [<- kE k l]
 rw [Hq,jR,aCx];rfl
theorem WW {l:List Int} (h:∀ w∈l,0<=w) (k:Nat):Hq (l.take k)<=Hq l:=by
 have:=aEz l k
 have:=Zy (l:=l.drop k) fun w hw=>h w (vC hw)
 omega
def aHq (n:SI) (x:EU):Prop:=(x.rows.length:Int)=Cf (rO (BX n) x.parents)/\∀ r∈x.rows,bS n.BS x.card r
noncomputable instance (n:SI) (x:EU):Decidable (aHq n x):=Classical.propDecidable _
theorem aHr (n:SI) (Bh:List Nat) (x:EU) (hg:1<=n.BS/\n.BS<=60) (hl:n.nodes.length<=8) (hc:∀ c∈BX n,Hz c) (hp:LG n.nodes.length x.parents)
  (hr:x.rows.length<=9223372036854775807) (hrr:∀ r∈x.rows,r.length<=9223372036854775807) :
  Pure cx 81 [.agg (Qr n Bh .Ad),x.pv] (·=.ret [.bool (decide (aHq n x))]):=by
 refine pure_of_vc Tryz.func81 rfl rfl rfl ?_
 have IL:(BX n).length=n.nodes.length:=qB ..
 have hxl:=Zm hp
 have dP:=Ni hp
 have hal:(rO (BX n) x.parents).length=x.parents.length:=qB ..
 have hac:=aNB (ps:=x.parents) hc (by rw [IL];exact dP)
 refine⟨Nat,fun k=>[(2, .ptr 0 0 0),(3, .ptr 1 0 0),(4, .ptr 2 0 0),(5, .p (i64 (Cf ((rO (BX n) x.parents).take k)))),(14, .p (Gh x.parents)),(15, .p (i64 x.parents.length)),(16, .p (i64 k))],fun _=>⟨3,[(2,bO false),(1,aHV x),(0,nwO n Bh .Ad)]⟩,fun k=>k<=x.parents.length,fun k=>x.parents.length - k,?_,?_⟩
 ·exact⟨0,by omega,AA [] [] [] rfl ⟨MBt,MBW,MC,rfl,rfl,aBP i64 x.parents,rfl,trivial⟩ MEr rfl⟩
 intro k hk
 obtain⟨p1,p2⟩:=Nh hac k ME
 have p3:=aHW k ME
 refine qA (fun h1=>?_) (fun h1=>?_)
 ·have h1:(k:Int)<(x.parents.length:Nat):=h1
  have J2:k<x.parents.length:=by omega
  obtain⟨m1,m2⟩:=dP _ (EK 0 J2)
  have e:(rO (BX n) x.parents).getD k 0=(BX n).getD (x.parents.getD k 0).toNat 0:=by rw [rO,getD_map 0 0 J2]
  obtain⟨q1,q2⟩:=Nh hac (k+1) ME
  have q3:=aHW (k+1) ME
  rw [JG ME,e] at q1 q2
  refine⟨_,⟨by omega,i64 (x.parents.getD k 0),nM J2,rfl⟩,?_⟩
  refine⟨_,⟨m1,i64 ((BX n).getD (x.parents.getD k 0).toNat 0),nM ME,rfl⟩,?_⟩
  refine⟨Cf ((rO (BX n) x.parents).take k) * (BX n).getD (x.parents.getD k 0).toNat 0,wrap_i64 MBc ME,?_⟩
  refine MAs ?_
  exact⟨k+1,by omega,AA [] [] [] rfl ⟨MBt,MBW,MC,by rw [JG MDV,e];rfl,rfl,rfl,rfl,trivial⟩ MEr rfl,by show x.parents.length - (k+1)<x.parents.length - k;omega⟩
 have h1:¬ (k:Int)<(x.parents.length:Nat):=h1
 have hk:k=x.parents.length:=by omega
 subst hk
 have htk:(rO (BX n) x.parents).take x.parents.length=rO (BX n) x.parents:=IA ME
 refine qA (fun h2=>?_) (fun h2=>?_)
 rotate_left
 ·have h2:¬ (((x.rows.map Gh).length:Nat):Int)=Cf ((rO (BX n) x.parents).take x.parents.length):=h2
  rw [qB,htk] at h2
  exact AL (.bool false) rfl rfl (Af (qF fun h=>h2 h.1).symm)
 have h2:(((x.rows.map Gh).length:Nat):Int)=Cf ((rO (BX n) x.parents).take x.parents.length):=h2
 rw [qB,htk] at h2
 refine(aNT x).eq rfl ?_
 refine NN ?_
 intro σ' ps ac bd e1 e2 e3 e4
 refine aKY n Bh x n.BS x.card hr _ σ' _ _ ps ac bd _ (fun h=>?_) (fun h=>?_) ?_
 ·exact AL (.bool true) rfl rfl (Af (qE ⟨h2,h⟩).symm)
 ·exact AL (.bool false) rfl rfl (Af (qF fun hh=>h hh.2).symm)
 intro k r K hrm FY Bt
 have hrl:=hrr r hrm
 subst e1 e2 e3 e4
 refine GZ rfl rfl rfl ?_
 apply sP (C:=cx) (α:=Nat) (fun i=>[(3, .ptr 1 0 0),(4, .ptr 2 0 0),(9, .p (Gh r)),(10, .p (i64 (n.BS - Hq (r.take i)))),(40, .p (Gh r)),(41, .p (i64 r.length)),(42, .p (i64 i))]) (fun N σ ps ac bd _=>⟨5,flL n Bh x .busy none N σ ps ac bd⟩) (fun i=>i<=r.length/\(∀ w∈r.take i,0<=w)/\0<=Hq (r.take i)/\Hq (r.take i)<=n.BS) (fun i=>r.length - i)
 ·exact⟨0,⟨by omega,by simp,by simp [Hq],by simp [Hq];omega⟩,AA [] [] [] rfl ⟨MBW,MC,rfl,qH (fun m=>i64 m) (show n.BS - 0=n.BS by omega),rfl,aBP i64 r,rfl,trivial⟩ MBv rfl⟩
 rintro i ⟨i1,i2,i3,i4⟩
 refine qA (fun k1=>?_) (fun k1=>?_)
 ·have k1:(i:Int)<(r.length:Nat):=k1
  have hi:i<r.length:=by omega
  have hwm:=EK 0 hi
  refine⟨_,⟨by omega,i64 (r.getD i 0),nM hi,rfl⟩,?_⟩
  refine qA (fun k2=>?_) (fun k2=>?_)
  ·exact Bt fun h=>by have k2:r.getD i 0<0:=k2;have:=(h.2.1 _ hwm).1;omega
  have k2:¬ r.getD i 0<0:=k2
  refine qA (fun k3=>?_) (fun k3=>?_)
  ·have k3:n.BS - Hq (r.take i)<r.getD i 0:=k3
   refine Bt fun h=>?_
   have h1:=WW (l:=r) (fun w hw=>(h.2.1 w hw).1) (i+1)
   rw [QF hi,h.2.2] at h1
   omega
  have k3:¬ n.BS - Hq (r.take i)<r.getD i 0:=k3
  refine⟨n.BS - Hq (r.take (i+1)),?_,?_⟩
  ·rw [QF hi]
   show _=IntKind.i64.wrap (n.BS - Hq (r.take i) - r.getD i 0)
   rw [show n.BS - (Hq (r.take i)+r.getD i 0)=n.BS - Hq (r.take i) - r.getD i 0 by omega]
   exact wrap_i64 MBc ME
  refine⟨(i:Int)+1,wrap_i64 MBc ME,?_⟩
  exact⟨i+1,⟨by omega,Tz 0 hi i2 MDV,by rw [QF hi];omega,by rw [QF hi];omega⟩,AA [] [] [] rfl ⟨MBW,MC,rfl,rfl,rfl,rfl,rfl,trivial⟩ MBv rfl,by show r.length - (i+1)<r.length - i;omega⟩
 ·have k1:¬ (i:Int)<(r.length:Nat):=k1
  have hrt:r.take i=r:=IA ME
  rw [hrt] at i2 i3 i4
  refine qA (fun k2=>?_) (fun k2=>?_)
  rotate_left
  ·exact Bt fun h=>by
    have k2:¬ (((r.map i64).length:Nat):Int)=x.card:=k2
    rw [qB] at k2
    exact k2 h.1
  have k2:(((r.map i64).length:Nat):Int)=x.card:=k2
  rw [qB] at k2
  refine qA (fun k3=>?_) (fun k3=>?_)
  rotate_left
  ·exact Bt fun h=>by
    have k3:¬ n.BS - Hq (r.take i)=0:=k3
    rw [hrt,h.2.2] at k3
    exact k3 ME
  have k3:n.BS - Hq (r.take i)=0:=k3
  rw [hrt] at k3
  refine FY ⟨k2,fun w hw=>⟨i2 w hw,?_⟩,by omega⟩
  obtain⟨j,hj,rfl⟩:=SV 0 hw
  have s1:=WW i2 (j+1)
  have s2:=Zy (l:=r.take j) fun w hw=>i2 w (kQ hw)
  rw [QF hj] at s1
  omega
structure Xz (g:Gr) (dec:Nat):Prop where
 BS:1<=g.BS/\g.BS<=60
 len:1<=g.nodes.length/\g.nodes.length<=8
 card:∀ x∈g.nodes,Hz x.card
 aHl:g.dec=(dec:Nat)
 small:dec<2 ^ g.nodes.length
 bare:∀ k,k<g.nodes.length->dec.testBit k=true->(g.nodes.getD k H5).rows=[]
 par:∀ x∈g.nodes,LG g.nodes.length (EH x.Jp)
theorem WV (g:Gr):Pure cx 83 [.agg (Zt g)] (·=.ret [.fn (.func 122) [] [.fp (Zt g)]]):=by
 refine pure_of_vc Tryz.func83 rfl rfl rfl ?_
 exact AL _ rfl ⟨rfl,_,_,rfl,rfl,⟨_,_,rfl,⟨_,rfl,_,_,rfl,rfl,_,_,rfl,rfl,_,_,rfl,rfl,_,_,rfl,rfl,rfl⟩,rfl⟩⟩ rfl
abbrev aPH:OT:=(.pure 0 (.pure 1 (.pure 2 (.pure 3 (.pure 4 (.pure 5 (.pure 6 (.pure 7 (.pure 8 (.pure 9 (.pure 10 (.pure 11 (.pure 12 (.pure 13 (.pure 14 (.pure 15 (.pure 16 (.pure 17 (.A8 18 [] (.pure 19 (.pure 20 .fin)) .nil)))))))))))))))))))
def rnL (g:Gr) (st:LoopState) (N:Nat) (σ:Sg) (ps:List Tmp) (ac bd:Code):List (Nat × Ag):=[(3,lpO st none 2 N σ ps ac bd),(2,aKV),(1,bO false),(0,Q9 g)]
theorem aNS (g:Gr) (dec:Nat) (hG:Xz g dec) (N:Nat) (σ Wo:Sg) (ds:List AD) (ps:List Tmp) (ac bd:Code) (Q:KQ)
  (Iq:Q .normal Wo ds ⟨4,rnL g .exhausted N σ ps ac bd⟩)
  (Wq:∀ (k pl:Nat) (K:AE->Hp->Prop),k<g.nodes.length->dec.testBit k=true->K (.returned (vB true)) ⟨4,rnL g .ready N σ ps ac bd⟩->Li cx 3 [.p (i64 (pl:Nat)), .p (i64 (k:Nat))] ⟨4,rnL g .ready N σ ps ac bd⟩ K) :
  A7 cx 122 [.fn (.yield 3) [] [], .p (.fp (Zt g))] ⟨4,rnL g .ready N σ ps ac bd⟩ (Ro 3 Wo ds Q):=by
 have hm:(g.nodes.map Nd.cells).length=g.nodes.length:=qB ..
 have h64:dec<18446744073709551616:=jr hG.small (Zr MKQ)
 have h8:=hG.len.2
 have VT:=hG.small
 obtain⟨gn,gr,nd,gd,ut⟩:=g
 obtain rfl:gd=(dec:Nat):=hG.aHl
 simp only [] at hm h8 Iq Wq VT
 refine holdsN_of_vc Tryz.func122 rfl rfl rfl ?_
 refine⟨Nat × Nat,fun x=>[(0, .fn (.yield 3) [] []),(1, .p (.fp (Zt ⟨gn,gr,nd,(dec:Nat),ut⟩))),(3, .p (i64 x.2)),(7, .p (i64 nd.length)),(8, .p (i64 x.1))],fun _=>⟨4,rnL ⟨gn,gr,nd,(dec:Nat),ut⟩ .ready N σ ps ac bd⟩,
  fun x=>x.1<=nd.length/\x.2<=x.1,fun x=>nd.length - x.1,?_,?_⟩
 ·exact⟨(0,0),⟨qL _,qL _⟩,AA [] [] [] rfl MHs (sk) rfl⟩
 rintro⟨k,pl⟩ ⟨k1,k2⟩
 simp only [] at k1 k2
 refine qA (fun m1=>?_) (fun m1=>?_)
 rotate_left
 ·exact⟨[],[],[], .returned Bv,⟨4,rnL ⟨gn,gr,nd,(dec:Nat),ut⟩ .ready N σ ps ac bd⟩,rfl,sk,(sk),Iq⟩
 have m1:(k:Int)<(nd.length:Nat):=m1
 have hk:k<nd.length:=by omega
 refine⟨by show(0:Int)<=k;omega,?_⟩
 refine⟨_,(Zq (k:=k) h64).trans (by rw [<- Xc ME];rfl),?_⟩
 refine qA (fun q1=>?_) (fun q1=>?_)
 ·refine MAs ?_
  exact⟨(k+1,pl),⟨MDv,by show pl<=k+1;omega⟩,AA [] [] [] rfl ME2 (sk) rfl,MCw⟩
 have hb:dec.testBit k=true:=by
  exact MJt
 refine Wq k pl _ hk hb ?_
 refine MAs ?_
 refine MAs ?_
 exact⟨(k+1,pl+1),⟨MDv,by show pl+1<=k+1;omega⟩,AA [] [] [] rfl ME2 (sk) rfl,MCw⟩
theorem nV (g:Gr) (dec:Nat) (hG:Xz g dec):Pure cx 47 [.agg (Zt g)] (·=.ret [.bool true]):=by
 have hm:(g.nodes.map Nd.cells).length=g.nodes.length:=qB ..
 have h64:dec<18446744073709551616:=jr hG.small (Zr MKQ)
 obtain⟨l1,l8⟩:=hG.len
 have VT:=hG.small
 have Jj:=hG.card
 have Iy:=hG.bare
 have aPI:=hG.par
 have hD:=WV g
 have hI:=aNS g dec hG
 obtain⟨gn,gr,nd,gd,ut⟩:=g
 obtain rfl:gd=(dec:Nat):=hG.aHl
 simp only [] at hm l1 l8 VT Jj Iy aPI hI
 refine pure_of_vc Tryz.func47 rfl rfl rfl ?_
 refine And.intro (fun e=>absurd (show(((nd.map Nd.cells).length:Nat):Int)<1 from e) ME) (fun _=>?_)
 refine And.intro (fun e=>absurd (show(8:Int)<((nd.map Nd.cells).length:Nat) from e) ME) (fun _=>?_)
 have hz:((dec:Nat):Int).fdiv (2 ^ (min ((((nd.map Nd.cells).length:Nat):Int)).toNat 64))=0:=by
  rw [hm,Xc ME,jU,Nat.div_eq_of_lt VT];rfl
 refine⟨by show(0:Int)<=((nd.map Nd.cells).length:Nat);omega,?_⟩
 refine And.intro (fun _=>?_) (fun h=>absurd hz h)
 refine⟨Nat,fun k=>[(1, .ptr 0 0 0),(2, .ptr 1 0 0),(27, .p (.Ai 3 (nd.map Nd.cells))),(28, .p (i64 nd.length)),(29, .p (i64 k))],fun _=>⟨2,[(1,bO false),(0,Q9 ⟨gn,gr,nd,(dec:Nat),ut⟩)]⟩,fun k=>k<=nd.length,fun k=>nd.length - k,?_,?_⟩
 ·exact⟨0,qL _,AA [] [] [] rfl MH2 (sk) rfl⟩
 intro k hk
 refine qA (fun m1=>?_) (fun m1=>?_)
 ·have m1:(k:Int)<(nd.length:Nat):=m1
  have J2:k<nd.length:=by omega
  have AO:=Oq J2
  obtain⟨c1,c2⟩:=Jj _ (Aa H5 J2)
  generalize nd.getD k H5=x at AO c1 c2
  obtain⟨xc,xp,xr⟩:=x
  refine⟨_,MJE,?_⟩
  refine And.intro (fun e=>absurd (show xc<1 from e) ME) (fun _=>?_)
  refine And.intro (fun e=>absurd (show 4<xc from e) ME) (fun _=>?_)
  refine MAs ?_
  exact⟨k+1,MDv,AA [] [] [] rfl MKw (sk) rfl,MCw⟩
 refine hD.eq rfl ?_
 refine NN ?_
 intro σ' ps ac bd e1 e2 e3 e4
 refine hI _ σ' _ _ ps ac bd _ ?_ ?_
 ·exact AL (.bool true) rfl rfl rfl
 intro k pl K J2 hb hK
 subst e1 e2 e3 e4
 refine GZ rfl rfl rfl ?_
 have AO:=Oq J2
 have hxr:=Iy k J2 hb
 have hxp:=aPI _ (Aa H5 J2)
 generalize nd.getD k H5=x at AO hxr hxp
 obtain⟨xc,xp,xr⟩:=x
 obtain rfl:xr=[]:=hxr
 have hxp:LG (nd.length:Nat) (EH xp):=hxp
 have hC:=aHm (EH xp) nd.length (by have:=Zm hxp;omega) hxp
 rw [<- JH,<- hm] at hC
 refine AR aPH MK ?_
 refine⟨_,MDx,?_⟩
 refine And.intro (fun e=>absurd (show(0:Int)<0 from e) ME) (fun _=>?_)
 refine⟨_,MDx,?_⟩
 refine hC.eq rfl ?_
 exact hK
end Go.Proofs.YtkegmchjobphdaaGreatDoor
namespace Go.Proofs.YtkegmchjobphdaaGreatDoor
open Go Y
set_option maxRecDepth 100000
set_option maxHeartbeats 40000000
abbrev TBd:TypeId:=109
abbrev yC:TypeId:=155
abbrev aC1:TypeId:=156
abbrev iU:TypeId:=215
def Fd.pv:Fd->PV
 | .none=>.iface iU (.agg [])
 | .one i=>.iface yC (i64 (i:Nat))
 | .many l=>.iface aC1 (EZ l)
abbrev yD (r:Rf) (idx:Int):List PV:=[.str r.name,i64 r.mode, .str r.Ae,i64 r.n,i64 idx]
abbrev aPN:List PV:=[.str [],i64 0, .str [],i64 0,i64 0]
theorem aHy {r r':Rf} {i i':Int} (h:yD r i=yD r' i'):r=r'/\i=i':=by
 obtain⟨a,b,c,d⟩:=r
 obtain⟨a',b',c',d'⟩:=r'
 injection h with h1 h;injection h with h2 h;injection h with h3 h;injection h with h4 h;injection h with h5 h
 injection h1 with h1;injection h2 with _ h2;injection h3 with h3;injection h4 with _ h4;injection h5 with _ h5
 simp only [] at h1 h2 h3 h4
 subst h1 h2 h3 h4 h5
 exact MC
open Classical in
theorem iV {a b:List PV} {x:PV}:∀ {l:List (List PV × PV)},H9 (PH l a x) b=if b=a then some x else H9 l b
 | []=>by simp only [PH,H9]
 | (k,y)::l=>by
  by_cases h:a=k
  ·subst h
   simp only [PH,jv,H9]
   by_cases e:b=a
   ·rw [qM e,qM e]
   ·rw [qG e,qG e,qG e]
  ·simp only [PH,qG h,H9,iV (l:=l)]
   by_cases e:b=k
   ·rw [qM e,qM e,qG (fun q=>h (by rw [<- q,e]))]
   ·rw [qG e,qG e]
def Ew (eb es:List (List UInt8 × PV)) (en:List (List PV × PV)):Prop:=∀ (r:Rf) (idx:Int) (x:PV) (b s:Nat),H9 en (yD r idx)=some x->BR eb r.name=some (i64 (b:Nat))->BR es r.name=some (i64 (s:Nat))->x=(Eh b s r idx).pv
theorem aE3 {eb es:List (List UInt8 × PV)} {en:List (List PV × PV)} (h:Ew eb es en) {r:Rf} {idx:Int} {b s:Nat} (h1:BR eb r.name=some (i64 (b:Nat))) (h2:BR es r.name=some (i64 (s:Nat))):Ew eb es (PH en (yD r idx) (Eh b s r idx).pv):=by
 intro r' i' x b' s' hf e1 e2
 rw [iV] at hf
 by_cases e:yD r' i'=yD r idx
 ·rw [qM e] at hf
  obtain⟨rfl,rfl⟩:=aHy e
  rw [h1] at e1
  rw [h2] at e2
  injection e1 with e1;injection e1 with _ e1
  injection e2 with e2;injection e2 with _ e2
  injection hf with hf
  rw [<- hf,wD.1 e1,wD.1 e2]
 ·rw [qG e] at hf
  exact h r' i' x b' s' hf e1 e2
def bdO (ds:List De) (ms:List (List PV)) (ns:List (List UInt8)) (b z n:Nat):Ag:=⟨TBd,false, .bx [.p (Dw ds), .p (.Ai 2 ms), .p (strs ns), .mp b, .mp z, .mp n]⟩
def FK (e:List (List UInt8 × PV)):Ag:=⟨68,false, .ms e⟩
def nkO (e:List (List PV × PV)):Ag:=⟨107,false, .mk aPN e⟩
abbrev Xi (ds:List De) (ms:List (List PV)) (ns:List (List UInt8)) (eb es:List (List UInt8 × PV)) (en:List (List PV × PV)):List (Nat × Ag):=[(3,nkO en),(2,FK es),(1,FK eb),(0,bdO ds ms ns 1 2 3)]
abbrev UF (ds:List De) (ms:List (List PV)) (ns:List (List UInt8)) (eb es:List (List UInt8 × PV)) (en:List (List PV × PV)):Hp:=⟨4,Xi ds ms ns eb es en⟩
def usO (r:Rf) (idx:Int):Ag:=⟨212,false, .bx ((yD r idx).map .p)⟩
def aPO (l:List Nat):Ag:=⟨TN,false, .pu (l.map fun i=>i64 (i:Nat))⟩
abbrev nk:OT:=(.pure 0 (.pure 1 (.pure 2 (.pure 3 (.pure 4 (.pure 5 (.pure 6 (.pure 7 (.pure 8 (.pure 9 (.pure 10 .fin)))))))))))
abbrev aE4:OT:=(.pure 0 (.pure 1 (.pure 2 (.pure 3 (.pure 4 (.pure 5 (.pure 6 (.pure 7 (.pure 8 (.pure 9 (.pure 10 (.pure 11 (.pure 12 (.pure 13 (.pure 14 (.pure 15 .fin))))))))))))))))
abbrev iW:OT:=(.pure 0 (.pure 1 (.pure 2 (.pure 3 (.pure 4 (.pure 5 (.A8 6 [] .fin .nil)))))))
theorem aHs (ds:List De) (ms:List (List PV)) (ns:List (List UInt8)) (eb es:List (List UInt8 × PV)) (en:List (List PV × PV)) (r:Rf) (idx:Int) (b s:Nat) (hi:0<=idx/\idx<=1000) (hr:0<=r.n/\r.n<=100000) (hbl:b<=1000) (Ta:s<=1000) (hb:BR eb r.name=some (i64 (b:Nat))) (hs:BR es r.name=some (i64 (s:Nat))) (hN:Ew eb es en) :
  A7 cx 58 [.ptr 0 0 0, .p r.pv, .p (i64 idx)] (UF ds ms ns eb es en) fun e H'=>∃ Kw,Ew eb es Kw/\e=.returned (.p (Eh b s r idx).pv)/\H'=UF ds ms ns eb es Kw:=by
 have PW:=aE3 hN (idx:=idx) hb hs
 obtain⟨rn,rm,rp,ri⟩:=r
 simp only [] at hr hb hs
 cases hk:H9 en (yD ⟨rn,rm,rp,ri⟩ idx) with
 | some x=>
  have hx:=hN _ _ x b s hk hb hs
  rw [hx] at hk
  clear PW hx
  generalize Eh b s ⟨rn,rm,rp,ri⟩ idx=fd at hk ⊢
  cases fd with
  | none=>
   refine MCq ?_
   refine AR nk MK ?_
   refine⟨_,MHT,?_⟩
   exact⟨[],[],[], .returned (.p (.iface iU (.agg []))),UF ds ms ns eb es en,rfl,sk,sk,en,hN,rfl,rfl⟩
  | one i=>
   refine MCq ?_
   refine AR nk MK ?_
   refine⟨_,MHT,?_⟩
   exact⟨[],[],[], .returned (.p (.iface yC (i64 (i:Nat)))),UF ds ms ns eb es en,rfl,sk,sk,en,hN,rfl,rfl⟩
  | many l=>
   refine MCq ?_
   refine AR nk MK ?_
   refine⟨_,MHT,?_⟩
   exact⟨[],[],[], .returned (.p (.iface aC1 (EZ l))),UF ds ms ns eb es en,rfl,sk,sk,en,hN,rfl,rfl⟩
 | none=>
  by_cases m0:rm=0
  ·have hx:Eh b s ⟨rn,rm,rp,ri⟩ idx=.one b:=by rw [Eh,qM m0]
   rw [hx] at PW ⊢
   refine MCq ?_
   refine AR nk MK ?_
   refine⟨_,MDt,?_⟩
   refine AR aE4 MK ?_
   refine MKy ?_
   refine MKz ?_
   refine And.intro (fun _=>?_) (fun q=>absurd m0 q)
   refine AR iW MK ?_
   refine⟨MK,[], .iface yC (i64 (b:Nat)),rfl,rfl,rfl,_,rfl,?_⟩
   exact⟨[],[],[], .returned (.p (.iface yC (i64 (b:Nat)))),UF ds ms ns eb es _,rfl,sk,sk,_,PW,rfl,rfl⟩
  by_cases m2:rm=2
  ·obtain⟨m,hm⟩:∃ m:Nat,m=b+ri.toNat:=MX
   have hx:Eh b s ⟨rn,rm,rp,ri⟩ idx=.one m:=by rw [Eh,qG m0,qM m2,hm]
   rw [hx] at PW ⊢
   refine MCq ?_
   refine AR nk MK ?_
   refine⟨_,MDt,?_⟩
   refine AR aE4 MK ?_
   refine MKy ?_
   refine MKz ?_
   refine MEz ?_
   refine And.intro (fun _=>?_) (fun q=>absurd m2 q)
   refine⟨((m:Nat):Int),by rw [show(b:Int)+ri=(m:Nat) by omega];exact wrap_i64 MBc ME,?_⟩
   exact MDj
  by_cases m3:rm=3
  ·obtain⟨M,hM⟩:∃ M:List Nat,M=(List.range s).map fun k=>b+k:=MX
   have hx:Eh b s ⟨rn,rm,rp,ri⟩ idx=.many M:=by rw [Eh,qG m0,qG m2,qM m3,hM]
   rw [hx] at PW ⊢
   refine MCq ?_
   refine AR nk MK ?_
   refine⟨_,MDt,?_⟩
   refine AR aE4 MK ?_
   refine MKy ?_
   refine MKz ?_
   refine MEz ?_
   refine MGf ?_
   refine And.intro (fun _=>?_) (fun q=>absurd m3 q)
   refine⟨Nat × List Nat,fun x=>[(0, .ptr 0 0 0),(7, .ptr 5 0 0),(10, .p (i64 (b:Nat))),(13, .sl 6 1 0 x.2.length),(60, .p (i64 (s:Nat))),(61, .p (i64 x.1))],fun x=>⟨7,(6,aPO x.2)::(5,usO ⟨rn,rm,rp,ri⟩ idx)::Xi ds ms ns eb es en⟩,fun x=>x.1<=s/\x.2=(List.range x.1).map fun k=>b+k,fun x=>s - x.1,?_,?_⟩
   ·exact⟨(0,[]),MGk,AA [] [] [(6,1)] rfl (sk) (sk) rfl⟩
   rintro⟨k,cur⟩ ⟨k1,k2⟩
   simp only [] at k1 k2
   have IL:cur.length<=1000:=by rw [k2,qB,kT];omega
   refine qA (fun q1=>?_) (fun q1=>?_)
   ·have q1:(k:Int)<(s:Nat):=q1
    have Ch:=aBS (fun k=>b+k) k
    rw [<- k2] at Ch
    obtain⟨m,hm⟩:∃ m:Nat,m=b+k:=MX
    rw [<- hm] at Ch
    refine⟨((m:Nat):Int),by rw [show(b:Int)+k=(m:Nat) by omega];exact wrap_i64 MBc ME,?_⟩
    refine⟨MO,[i64 (m:Nat)],rfl,?_⟩
    refine⟨MEu,cur.map fun i=>i64 (i:Nat),AB MBV,by show(cur.length+1) * 8<=140737488355328;omega,(cur++[m]).map fun i=>i64 (i:Nat),MHf,?_⟩
    refine MAs ?_
    exact⟨(k+1,cur++[m]),⟨by show k+1<=s;omega,Ch.symm⟩,AA [] [(5,5),(6,8)] [] rfl ⟨MBW,MC,rfl,qH (fun j:Nat=>AV.sl 8 1 0 j) (Ak cur _).symm,rfl,rfl,trivial⟩ (sk) rfl,by show s - (k+1)<s - k;omega⟩
   ·have q1:¬ (k:Int)<(s:Nat):=q1
    rw [show k=s by omega,<- hM] at k2
    subst k2
    refine AR iW MK ?_
    refine⟨MK,[6], .iface aC1 (EZ cur),rfl,MKb,rfl,_,rfl,?_⟩
    exact⟨[],[],[], .returned (.p (.iface aC1 (EZ cur))),UF ds ms ns eb es _,rfl,⟨_,rfl,MKb⟩,sk,_,PW,rfl,rfl⟩
  by_cases m1:rm=1
  ·by_cases GL:idx+ri<(s:Nat)
   ·obtain⟨m,hm⟩:∃ m:Nat,m=b+(idx+ri).toNat:=MX
    have hx:Eh b s ⟨rn,rm,rp,ri⟩ idx=.one m:=by rw [Eh,qG m0,qG m2,qG m3,qM m1,qM GL,hm]
    rw [hx] at PW ⊢
    refine MCq ?_
    refine AR nk MK ?_
    refine⟨_,MDt,?_⟩
    refine AR aE4 MK ?_
    refine MKy ?_
    refine MKz ?_
    refine MEz ?_
    refine MGf ?_
    refine MKJ ?_
    refine And.intro (fun _=>?_) (fun q=>absurd m1 q)
    refine⟨idx+ri,wrap_i64 (n:=idx+ri) MBc ME,?_⟩
    refine And.intro (fun _=>?_) (fun q=>absurd GL q)
    refine MAs ?_
    refine⟨((m:Nat):Int),by rw [show(b:Int)+idx+ri=(m:Nat) by omega];exact wrap_i64 MBc ME,?_⟩
    exact MDj
   ·have hx:Eh b s ⟨rn,rm,rp,ri⟩ idx=.none:=by rw [Eh,qG m0,qG m2,qG m3,qM m1,qG GL]
    rw [hx] at PW ⊢
    refine MCq ?_
    refine AR nk MK ?_
    refine⟨_,MDt,?_⟩
    refine AR aE4 MK ?_
    refine MKy ?_
    refine MKz ?_
    refine MEz ?_
    refine MGf ?_
    refine MKJ ?_
    refine And.intro (fun _=>?_) (fun q=>absurd m1 q)
    refine⟨idx+ri,wrap_i64 (n:=idx+ri) MBc ME,?_⟩
    refine And.intro (fun q=>absurd q GL) (fun _=>?_)
    exact MDq
  ·have hx:Eh b s ⟨rn,rm,rp,ri⟩ idx=.none:=by rw [Eh,qG m0,qG m2,qG m3,qG m1]
   rw [hx] at PW ⊢
   refine MCq ?_
   refine AR nk MK ?_
   refine⟨_,MDt,?_⟩
   refine AR aE4 MK ?_
   refine MKy ?_
   refine MKz ?_
   refine MEz ?_
   refine MGf ?_
   refine MKJ ?_
   refine And.intro (fun q=>absurd q m1) (fun _=>?_)
   exact MDq
end Go.Proofs.YtkegmchjobphdaaGreatDoor
namespace Go.Proofs.YtkegmchjobphdaaGreatDoor
open Go Y
set_option maxRecDepth 100000
set_option maxHeartbeats 40000000
theorem x9 (b s:Nat) (r:Rf) (idx:Int) (hs:s<=1000):(Eh b s r idx).list.length<=1000:=by
 unfold Eh
 split
 ·show 1<=1000;decide
 ·split
  ·show 1<=1000;decide
  ·split
   ·show((List.range s).map _).length<=1000
    rw [qB,kT];exact hs
   ·split
    ·split
     ·show 1<=1000;decide
     ·show 0<=1000;decide
    ·show 0<=1000;decide
theorem aE2 {α:Type} (f:Rf->List α) {refs:List Rf} {k:Nat} (h:k<refs.length):(refs.take (k+1)).flatMap f=(refs.take k).flatMap f++f (refs.getD k Bu):=by
 rw [AU Bu h,jY]
 show _++(f _++[])=_
 rw [qU]
theorem yB (a b:List Nat):EH (a++b)=EH a++EH b:=qX
theorem aKi (l:List Nat):(EH l).map i64=l.map fun i=>i64 ((i:Nat):Int):=by rw [EH,kr];rfl
abbrev bdF (k:Nat) (v:AV) (refs:List Rf) (idx:Int):List (Nat × AV):=[(0, .ptr 0 0 0),(2, .p (i64 idx)),(7,v),(12, .p (FX refs)),(13, .p (i64 refs.length)),(14, .p (i64 k))]
theorem aKj (ds:List De) (ms:List (List PV)) (ns:List (List UInt8)) (eb es:List (List UInt8 × PV)) (en:List (List PV × PV)) (refs:List Rf) (idx:Int) (F:Rf->Nat × Nat) (hrl:refs.length<=100) (hi:0<=idx/\idx<=1000)
  (hF:∀ r∈refs,0<=r.n/\r.n<=100000/\(F r).1<=1000/\(F r).2<=1000/\BR eb r.name=some (i64 ((F r).1:Nat))/\BR es r.name=some (i64 ((F r).2:Nat))) (hN:Ew eb es en) :
  A7 cx 35 [.ptr 0 0 0, .p (FX refs), .p (i64 idx)] (UF ds ms ns eb es en) fun e H'=>∃ Kw s,Ew eb es Kw/\s.Perm (EH (refs.flatMap fun r=>(Eh (F r).1 (F r).2 r idx).list))/\s.Pairwise (·<=·)/\e=.returned (.p (ints (GU s)))/\H'=UF ds ms ns eb es Kw:=by
 have hrm:(refs.map Rf.cells).length=refs.length:=qB ..
 refine holdsN_of_vc Tryz.func35 rfl rfl rfl ?_
 refine⟨Nat × List Int × List (List PV × PV),fun x=>bdF x.1 (.sl 4 1 0 x.2.1.length) refs idx,fun x=>⟨5,(4,iO x.2.1)::Xi ds ms ns eb es x.2.2⟩,
  fun x=>x.1<=refs.length/\x.2.1.length<=1000 * x.1/\x.2.1=EH ((refs.take x.1).flatMap fun r=>(Eh (F r).1 (F r).2 r idx).list)/\Ew eb es x.2.2,fun x=>refs.length - x.1,?_,?_⟩
 ·exact⟨(0,[],en),⟨qL _,qN _,rfl,hN⟩,AA [] [] [(4,1)] rfl ⟨MC,rfl,MFP,rfl,qH (fun n:Nat=>i64 n) hrm.symm,rfl,trivial⟩ (sk) rfl⟩
 rintro⟨k,xs,nX⟩ ⟨k1,k2,k3,dQ⟩
 simp only [] at k1 k2 k3 dQ
 refine qA (fun m1=>?_) (fun m1=>?_)
 ·have m1:(k:Int)<(refs.length:Nat):=m1
  have hk:k<refs.length:=by omega
  have AO:=G7 hk
  obtain⟨r0,r1,f1,f2,f3,f4⟩:=hF _ (Aa Bu hk)
  have Ch:=aE2 (fun r=>(Eh (F r).1 (F r).2 r idx).list) hk
  have XW:=x9 (F (refs.getD k Bu)).1 (F (refs.getD k Bu)).2 (refs.getD k Bu) idx f2
  have Vo:=aHs ds ms ns eb es nX (refs.getD k Bu) idx _ _ hi ⟨r0,r1⟩ f1 f2 f3 f4 dQ
  clear f1 f2 f3 f4 r0 r1
  generalize Eh (F (refs.getD k Bu)).1 (F (refs.getD k Bu)).2 (refs.getD k Bu) idx=fd at Ch XW Vo
  generalize refs.getD k Bu=r at AO Vo
  obtain⟨rn,rm,rp,ri⟩:=r
  cases fd with
  | none=>
   rw [Fd.list,qU] at Ch
   refine⟨_,MFJ,?_⟩
   refine Vo.holds.BB [] [] rfl (sk) (sk) fun e0 H0 hq=>?_
   obtain⟨Kw,bP,rfl,rfl⟩:=hq
   refine MEG ?_
   refine MAs ?_
   exact⟨(k+1,xs,Kw),⟨MIp,by show xs.length<=1000 * (k+1);omega,by show xs=_;rw [Ch,k3],bP⟩,AA [] [] [] rfl (sk) (sk) rfl,MFn⟩
  | one i=>
   rw [Fd.list] at Ch
   refine⟨_,MFJ,?_⟩
   refine Vo.holds.BB [] [] rfl (sk) (sk) fun e0 H0 hq=>?_
   obtain⟨Kw,bP,rfl,rfl⟩:=hq
   refine MEG ?_
   refine⟨MO,[i64 (i:Nat)],rfl,?_⟩
   refine⟨MKF,xs.map i64,AB MBV,MJl,(xs++[((i:Nat):Int)]).map i64,MHf,?_⟩
   refine MAs ?_
   exact⟨(k+1,xs++[((i:Nat):Int)],Kw),⟨MIp,by show(xs++[((i:Nat):Int)]).length<=1000 * (k+1);rw [Ak];omega,by show xs++[((i:Nat):Int)]=_;rw [Ch,yB,<- k3];rfl,bP⟩,AA [] [(4,7)] [] rfl ⟨MC,rfl,qH (fun j:Nat=>AV.sl 7 1 0 j) (Ak xs _).symm,rfl,rfl,rfl,trivial⟩ (sk) rfl,MFn⟩
  | many l=>
   rw [Fd.list] at Ch XW
   refine⟨_,MFJ,?_⟩
   refine Vo.holds.BB [] [] rfl (sk) (sk) fun e0 H0 hq=>?_
   obtain⟨Kw,bP,rfl,rfl⟩:=hq
   refine MEG ?_
   refine⟨MKF,xs.map i64,AB MBV,by show(xs.length+(l.map fun i=>i64 ((i:Nat):Int)).length) * 8<=140737488355328;rw [qB];omega,(xs++EH l).map i64,by rw [qX,aKi],?_⟩
   refine MAs ?_
   exact⟨(k+1,xs++EH l,Kw),⟨MIp,by show(xs++EH l).length<=1000 * (k+1);rw [qD,EH,qB];omega,by show xs++EH l=_;rw [Ch,yB,<- k3],bP⟩,AA [] [(4,6)] [] rfl ⟨MC,rfl,qH (fun j:Nat=>AV.sl 6 1 0 j) (by rw [qD,qB,EH,qB]),rfl,rfl,rfl,trivial⟩ (sk) rfl,MFn⟩
 have m1:¬ (k:Int)<(refs.length:Nat):=m1
 rw [Ar ME] at k3
 refine(aMb xs ME).holds.BB [] [(0,4)] rfl (sk) (sk) fun e0 H0 hq=>?_
 obtain⟨ys,hp,hs,rfl,rfl⟩:=hq
 have hlen:=hp.length_eq
 refine⟨rfl,_,⟨5,(4,iO ys)::Xi ds ms ns eb es nX⟩,rfl,rfl,?_⟩
 have hCp:=aDy ys ME
 rw [hlen] at hCp
 have IL:=aCE ys
 refine hCp.holds.BB [] [(0,4)] rfl (sk) (sk) fun e0 H0 hq=>?_
 obtain⟨rfl,rfl⟩:=hq
 refine⟨rfl,_,⟨5,(4,iO (GU ys++List.replicate (xs.length - (GU ys).length) 0))::Xi ds ms ns eb es nX⟩,rfl,rfl,?_⟩
 refine⟨[4],[],[], .returned (.p (ints (GU ys))),UF ds ms ns eb es nX,rfl,⟨_,rfl,⟨(GU ys).map i64,rfl,by show 0+(GU ys).length<=((GU ys++List.replicate (xs.length - (GU ys).length) 0).map i64).length;simp,?_⟩⟩,sk,nX,ys,dQ,by rw [<- k3];exact hp,hs,rfl,rfl⟩
 show(GU ys).map i64=(((GU ys++List.replicate (xs.length - (GU ys).length) 0).map i64).drop 0).take (GU ys).length
 rw [ji,qX,List.take_left' (qB ..)]
structure x8 (ds:List De) (eb es:List (List UInt8 × PV)):Prop where
 base:∀ k,k<ds.length->((ds.getD k Aj).kind=3∨(ds.getD k Aj).kind=4)->BR eb (ds.getD k Aj).name=some (i64 ((AY ds (ds.take k)).length:Nat))
 size:∀ k,k<ds.length->((ds.getD k Aj).kind=3∨(ds.getD k Aj).kind=4)->BR es (ds.getD k Aj).name=some (i64 (Fh ds (ds.getD k Aj):Nat))
theorem aC0 {ds:List De} (h:BN ds) (ms:List (List PV)) (ns:List (List UInt8)) {eb es:List (List UInt8 × PV)} {en:List (List PV × PV)} (hT:x8 ds eb es) {j:Nat} (hj:j<ds.length) (idx:Int) (hi:0<=idx/\idx<=1000) (hN:Ew eb es en) :
  A7 cx 35 [.ptr 0 0 0, .p (FX (ds.getD j Aj).refs), .p (i64 idx)] (UF ds ms ns eb es en) fun e H'=>∃ Kw,Ew eb es Kw/\e=.returned (.p (EZ (Dn (AY ds ds) (ds.getD j Aj).refs idx)))/\H'=UF ds ms ns eb es Kw:=by
 obtain⟨hrl,hrn⟩:=h.aQK hj
 have key:∀ r:Rf,∃ p:Nat × Nat,r∈(ds.getD j Aj).refs->0<=r.n/\r.n<=100000/\p.1<=1000/\p.2<=1000/\BR eb r.name=some (i64 (p.1:Nat))/\BR es r.name=some (i64 (p.2:Nat))/\FP (AY ds ds) r idx=(Eh p.1 p.2 r idx).list:=by
  intro r
  by_cases hr:r∈(ds.getD j Aj).refs
  ·obtain⟨k,k1,k2,k3,k4,k5,k6,k7,k8,k9,k10⟩:=h.ref hj hr
   have hk:k<ds.length:=by omega
   have hl8:=h.eight.2
   have hA:=(lS ds hk).eq
   refine⟨((AY ds (ds.take k)).length,Fh ds (ds.getD k Aj)),fun _=>⟨k5,by omega,?_,?_,?_,?_,OB h.bT hk k2 k3 idx hi.1 k5 k4 k6 k7⟩⟩
   ·rw [hA,qD,qD] at hl8
    show(AY ds (ds.take k)).length<=1000
    omega
   ·rw [hA,qD,qD] at hl8
    show Fh ds _<=1000
    rw [Fh];omega
   ·rw [<- k3];exact hT.base k hk k2
   ·rw [<- k3];exact hT.size k hk k2
  ·exact⟨(0,0),fun e=>absurd e hr⟩
 obtain⟨F,hF⟩:=Classical.axiomOfChoice key
 have hh:=aKj ds ms ns eb es en (ds.getD j Aj).refs idx F ME hi (fun r hr=>⟨(hF r hr).1,(hF r hr).2.1,(hF r hr).2.2.1,(hF r hr).2.2.2.1,(hF r hr).2.2.2.2.1,(hF r hr).2.2.2.2.2.1⟩) hN
 refine fun Γ w args' hR hA=>?_
 obtain⟨c1,c2⟩:=hh Γ w args' hR hA
 refine⟨c1,c2.mono fun _ _=>Fs.mono fun e H' hq=>?_⟩
 obtain⟨Kw,s,q1,q2,q3,q4,q5⟩:=hq
 refine⟨Kw,q1,?_,q5⟩
 rw [q4,JH,<- aJT (s:=s) (fun i=>?_) q2 q3]
 rw [jV]
 constructor
 ·rintro⟨r,hr,hx⟩
  exact⟨r,hr,by rw [(hF r hr).2.2.2.2.2.2];exact hx⟩
 ·rintro⟨r,hr,hx⟩
  exact⟨r,hr,by rw [(hF r hr).2.2.2.2.2.2] at hx;exact hx⟩
theorem Zz (rel a b:Int):Pure cx 102 [i64 rel,i64 a,i64 b] (·=.ret [.bool (Wl rel a b)]):=by
 obtain⟨R,hR⟩:∃ R,R=Wl rel a b:=MX
 rw [<- hR]
 refine pure_of_vc Tryz.func102 rfl rfl rfl ?_
 refine qA (fun r1=>?_) (fun r1=>?_)
 ·have r1:rel=1:=r1
  rw [Wl,qM r1] at hR
  refine qA (fun e=>?_) (fun e=>?_)
  ·have e:a=b:=e
   exact MFt
  ·have e:¬ a=b:=e
   exact MIS
 have r1:¬ rel=1:=r1
 refine qA (fun r2=>?_) (fun r2=>?_)
 ·have r2:rel=2:=r2
  rw [Wl,qG r1,qM r2] at hR
  refine qA (fun e=>?_) (fun e=>?_)
  ·have e:a=b:=e
   exact AL _ rfl rfl (Af (by rw [hR,qF (fun h=>h e)]))
  ·have e:¬ a=b:=e
   exact MFt
 have r2:¬ rel=2:=r2
 refine qA (fun r3=>?_) (fun r3=>?_)
 ·have r3:rel=3:=r3
  rw [Wl,qG r1,qG r2,qM r3] at hR
  refine qA (fun e=>?_) (fun e=>?_)
  ·have e:a<b:=e
   exact MFt
  ·have e:¬ a<b:=e
   exact MIS
 ·have r3:¬ rel=3:=r3
  rw [Wl,qG r1,qG r2,qG r3] at hR
  refine qA (fun e=>?_) (fun e=>?_)
  ·have e:a<=b:=e
   exact MFt
  ·have e:¬ a<=b:=e
   exact MIS
theorem aHv (st:List Int) (v:Int) (hs:st.length<=100):Pure cx 201 [ints st,i64 v] fun r=>∃ n:Int,r=.ret [i64 n]/\(0<=n ↔ (st.any fun x=>decide (x=v))=true):=by
 have hm:(st.map i64).length=st.length:=qB ..
 refine pure_of_vc Tryz.func201 rfl rfl rfl ?_
 refine⟨Nat,fun k=>[(0, .p (ints st)),(1, .p (i64 v)),(7, .p (i64 st.length)),(8, .p (i64 k))],fun _=>⟨0,[]⟩,fun k=>k<=st.length/\∀ x∈st.take k,¬ x=v,fun k=>st.length - k,?_,?_⟩
 ·exact⟨0,⟨qL _,fun x hx=>by cases hx⟩,AA [] [] [] rfl MDW (sk) rfl⟩
 rintro k ⟨k1,k2⟩
 refine qA (fun m1=>?_) (fun m1=>?_)
 rotate_left
 ·have m1:¬ (k:Int)<(st.length:Nat):=m1
  rw [Ar ME] at k2
  refine AL (i64 (-1)) rfl rfl ⟨-1,rfl,fun h=>absurd h ML,fun h=>?_⟩
  obtain⟨x,hx,e⟩:=ve.1 h
  exact absurd (kK e) (k2 x hx)
 have m1:(k:Int)<(st.length:Nat):=m1
 have hk:k<st.length:=by omega
 have AO:=nT hk
 have Dy:=Aa 0 hk
 have Ch:=AU 0 hk
 generalize st.getD k 0=x at AO Dy Ch
 refine⟨_,MEC,?_⟩
 refine qA (fun e1=>?_) (fun e1=>?_)
 ·have e1:v=x:=e1
  exact AL (i64 (k:Nat)) rfl rfl ⟨((k:Nat):Int),rfl,fun _=>ve.2 ⟨x,Dy,qE e1.symm⟩,fun _=>by omega⟩
 ·have e1:¬ v=x:=e1
  refine MAs ?_
  refine⟨k+1,⟨by omega,fun y hy=>?_⟩,AA [] [] [] rfl (sk) (sk) rfl,by show st.length - (k+1)<st.length - k;omega⟩
  rw [Ch] at hy
  rcases qa.1 hy with hy | hy
  ·exact k2 y hy
  ·rw [qP.1 hy];exact fun e=>e1 e.symm
theorem yA (st:List Int) (v:Int) (hs:st.length<=100):Pure cx 151 [ints st,i64 v] (·=.ret [.bool (st.any fun x=>decide (x=v))]):=by
 have hI:=aHv st v hs
 generalize (st.any fun x=>decide (x=v))=b at hI
 refine pure_of_vc Tryz.func151 rfl rfl rfl ?_
 refine hI.at fun r hr=>?_
 obtain⟨n,rfl,hn⟩:=hr
 refine qA (fun e=>?_) (fun e=>?_)
 ·have e:0<=n:=e
  exact AL _ rfl rfl (Af (hn.1 e).symm)
 ·have e:¬ 0<=n:=e
  refine AL _ rfl rfl (Af ?_)
  cases b
  ·rfl
  ·exact absurd (hn.2 rfl) e
def aCz (op v n:Int) (st:List Int):Bool:=if op=5 then st.any fun x=>decide (x=v) else Wl op v n
theorem aKh (op n rel val:Int) (r:Rf) (st:List Int) (ar:List Cd) (v:Int) (hs:st.length<=100):Pure cx 100 [(Cd.mk op n rel val r st ar).pv,i64 v] (·=.ret [.bool (aCz op v n st)]):=by
 obtain⟨R,hR⟩:∃ R,R=aCz op v n st:=MX
 rw [<- hR]
 rw [aCz] at hR
 obtain⟨rn,rm,rp,ri⟩:=r
 refine pure_of_vc Tryz.func100 rfl rfl rfl ?_
 refine qA (fun o5=>?_) (fun o5=>?_)
 ·have o5:op=5:=o5
  rw [qM o5] at hR
  refine(yA st v hs).eq rfl ?_
  exact AL _ rfl rfl (Af hR.symm)
 ·have o5:¬ op=5:=o5
  rw [qG o5] at hR
  refine(Zz op v n).eq rfl ?_
  exact AL _ rfl rfl (Af hR.symm)
structure VX (vals:List Int):Prop where
 len:vals.length=8
 val:∀ i,i<8->0<=vals.getD i 0/\vals.getD i 0<4
abbrev TV8:TypeId:=220
abbrev va8 (u:List Int):List AV:=[.p (i64 (u.getD 0 0)), .p (i64 (u.getD 1 0)), .p (i64 (u.getD 2 0)), .p (i64 (u.getD 3 0)), .p (i64 (u.getD 4 0)), .p (i64 (u.getD 5 0)), .p (i64 (u.getD 6 0)), .p (i64 (u.getD 7 0))]
def RY (vals:List Int):Ag:=⟨TV8,false, .bx (va8 vals)⟩
theorem UG:∀ {u:List Int},u.length=8->va8 u=u.map fun x=>AV.p (i64 x)
 | [_,_,_,_,_,_,_,_],_=>rfl
abbrev va4 (u:List Int):List AV:=[.p (i64 (u.getD 0 0)), .p (i64 (u.getD 1 0)), .p (i64 (u.getD 2 0)), .p (i64 (u.getD 3 0))]
theorem nY:∀ {u:List Int},u.length=4->va4 u=u.map fun x=>AV.p (i64 x)
 | [_,_,_,_],_=>rfl
def Gi (l:List Mb) (idx:Int) (c:Cd) (g:FuncId) (Et:List PV):Prop:=∀ vals:List Int,VX vals->A7 cx g (.ptr 0 0 0::Et.map .p) ⟨1,[(0,RY vals)]⟩ fun e H'=>e=.returned (.p (.bool (BM l idx vals c)))/\H'=⟨1,[(0,RY vals)]⟩
theorem Dc (ρ:Nat->Nat) (ni:List (Nat × Nat)) (L:List (Nat × Ag)):∀ l:List PV,GM ρ ni L (l.map .p) (l.map .p)
 | []=>rfl
 | x::l=>⟨_,_,rfl,A9 L x,Dc ρ ni L l⟩
theorem nZ (ρ:Nat->Nat) (ni:List (Nat × Nat)) (L:List (Nat × Ag)) (l:List Int):GM ρ ni L (l.map fun x=>AV.p (i64 x)) (l.map fun x=>AV.p (i64 x)):=by
 have:=Dc ρ ni L (l.map i64)
 rwa [kr] at this
theorem aHw {vals:List Int} {i:Nat} (hl:vals.length=8) (h:i<8):(va8 vals)[0+i * (0+1)]?=some (.p (i64 (vals.getD i 0))):=by
 rw [show 0+i * (0+1)=i by omega,UG hl]
 exact Ct 0 ME
theorem aHx {vals:List Int} {i:Nat} (hl:vals.length=4) (h:i<4):(va4 vals)[0+i * (0+1)]?=some (.p (i64 (vals.getD i 0))):=by
 rw [show 0+i * (0+1)=i by omega,nY hl]
 exact Ct 0 ME
theorem aRT (ρ:Nat->Nat) (ni:List (Nat × Nat)) (L:List (Nat × Ag)) {u:List Int} (hl:u.length=4) (v:Nat) (c:Int):GM ρ ni L (Fv (va4 u) (0+v * (0+1)) [.p (i64 c)]) (va4 (u.set v c)):=by
 rw [show 0+v * (0+1)=v by omega,Ql,nY hl,nY (by rw [jI];exact hl),<- jo (f:=fun x=>AV.p (i64 x))]
 exact nZ _ _ _ _
theorem aKa (l:List Mb) (idx n rel val:Int) (r:Rf) (st:List Int):Gi l idx (.mk 0 n rel val r st []) 98 []:=fun vals hv=>by
 have hR:BM l idx vals (.mk 0 n rel val r st [])=true:=by rw [BM,qM rfl]
 rw [hR]
 refine holdsN_of_vc Tryz.func98 rfl rfl rfl ?_
 exact MFy
theorem aKb (l:List Mb) (idx:Int) (c:Cd) (h:∀ vals,BM l idx vals c=false):Gi l idx c 103 []:=fun vals hv=>by
 rw [h]
 refine holdsN_of_vc Tryz.func103 rfl rfl rfl ?_
 exact MFv
theorem aKe {l:List Mb} {idx n rel val:Int} {r:Rf} {st:List Int} {a:Cd} {g:FuncId} {Et:List PV} (ha:Gi l idx a g Et):Gi l idx (.mk 7 n rel val r st [a]) 95 [.fp [.Dh [.fn (.func g) [] Et]]]:=fun vals hv=>by
 have hA:=ha vals hv
 rw [BM,qG ML,qM rfl,Df,Df]
 show A7 cx _ _ _ fun e H'=>e=.returned (.p (.bool (!BM l idx vals a)))/\_
 generalize BM l idx vals a=p at hA
 refine holdsN_of_vc Tryz.func95 rfl rfl rfl ?_
 refine⟨_,MIQ,?_⟩
 refine hA.holds.BB [] [] rfl (sk) MFV fun e0 H0 hq=>?_
 obtain⟨rfl,rfl⟩:=hq
 refine MJz ?_
 exact⟨[],[],[], .returned (.p (.bool (!p))),⟨1,[(0,RY vals)]⟩,rfl,sk,sk,rfl,rfl⟩
theorem aKf {l:List Mb} {idx n rel val:Int} {r:Rf} {st:List Int} {a b:Cd} {g k:FuncId} {Et aBU:List PV} (ha:Gi l idx a g Et) (hb:Gi l idx b k aBU):Gi l idx (.mk 8 n rel val r st [a,b]) 96 [.fp [.Dh [.fn (.func g) [] Et, .fn (.func k) [] aBU]]]:=fun vals hv=>by
 have hA:=ha vals hv
 have hB:=hb vals hv
 rw [BM,qG MBM,qG ML,qM rfl,Df,Df,Df]
 show A7 cx _ _ _ fun e H'=>e=.returned (.p (.bool (BM l idx vals a && BM l idx vals b)))/\_
 generalize BM l idx vals a=p at hA
 generalize BM l idx vals b=q at hB
 cases p
 ·refine holdsN_of_vc Tryz.func96 rfl rfl rfl ?_
  refine⟨_,MIQ,?_⟩
  refine hA.holds.BB [] [] rfl (sk) MFV fun e0 H0 hq=>?_
  obtain⟨rfl,rfl⟩:=hq
  refine MJz ?_
  exact MFv
 ·refine holdsN_of_vc Tryz.func96 rfl rfl rfl ?_
  exact MBU
theorem aKg {l:List Mb} {idx n rel val:Int} {r:Rf} {st:List Int} {a b:Cd} {g k:FuncId} {Et aBU:List PV} (ha:Gi l idx a g Et) (hb:Gi l idx b k aBU):Gi l idx (.mk 9 n rel val r st [a,b]) 97 [.fp [.Dh [.fn (.func g) [] Et, .fn (.func k) [] aBU]]]:=fun vals hv=>by
 have hA:=ha vals hv
 have hB:=hb vals hv
 rw [BM,qG MEl,qG MBM,qG ML,qM rfl,Df,Df,Df]
 show A7 cx _ _ _ fun e H'=>e=.returned (.p (.bool (BM l idx vals a || BM l idx vals b)))/\_
 generalize BM l idx vals a=p at hA
 generalize BM l idx vals b=q at hB
 cases p
 ·refine holdsN_of_vc Tryz.func97 rfl rfl rfl ?_
  exact MBU
 ·refine holdsN_of_vc Tryz.func97 rfl rfl rfl ?_
  refine⟨_,MIQ,?_⟩
  refine hA.holds.BB [] [] rfl (sk) MFV fun e0 H0 hq=>?_
  obtain⟨rfl,rfl⟩:=hq
  refine MJz ?_
  exact MFy
abbrev aPL:OT:=(.pure 0 (.pure 1 (.pure 2 (.pure 3 (.pure 4 (.pure 5 (.A8 6 [] (.pure 7 .fin) .nil)))))))
abbrev aPM:OT:=(.pure 0 (.pure 1 (.pure 2 (.pure 3 (.pure 4 (.pure 5 (.pure 6 (.pure 7 (.A8 8 [] (.pure 9 .fin) .nil)))))))))
theorem aKc {l:List Mb} {idx op n rel val:Int} {r:Rf} {st:List Int} {i:Nat} (hi:i<8) (hs:st.length<=100) (h:∀ vals,BM l idx vals (.mk op n rel val r st [])=aCz op (vals.getD i 0) n st):Gi l idx (.mk op n rel val r st []) 99 [.fp (Cd.mk op n rel val r st []).cells, .fp [i64 (i:Nat)]]:=fun vals hv=>by
 rw [h]
 have hT:=aKh op n rel val r st [] (vals.getD i 0) hs
 have hc:=aHw (vals:=vals) (i:=i) hv.len hi
 generalize vals.getD i 0=z at hT hc
 obtain⟨rn,rm,rp,ri⟩:=r
 refine holdsN_of_vc Tryz.func99 rfl rfl rfl ?_
 refine AR aPL MK ?_
 refine⟨by show(0:Int)<=(i:Nat)/\((i:Nat):Int)<8;omega,?_⟩
 refine⟨.p (i64 z),Pb rfl hc,?_⟩
 refine hT.eq rfl ?_
 exact MF6
def caO (GJ:List Int):Ag:=⟨218,false, .bx (va4 GJ)⟩
def XE (vals:List Int) (l:List Nat):List Int:=(List.range 4).map fun (z:Nat)=>(((l.filter fun i=>decide (vals.getD i 0=(z:Nat))).length:Nat):Int)
theorem Z0 {vals:List Int} {l:List Nat} {z:Nat} (h:z<4):(XE vals l).getD z 0=(((l.filter fun i=>decide (vals.getD i 0=(z:Nat))).length:Nat):Int):=by
 rw [XE,qK,kF,xm h];rfl
theorem UH (vals:List Int) (l:List Nat):(XE vals l).length=4:=by rw [XE,qB,kT]
theorem aE1 {vals:List Int} {l:List Nat} {i z:Nat} (hz:z<4) (h:vals.getD i 0=(z:Nat)):XE vals (l++[i])=(XE vals l).set z ((XE vals l).getD z 0+1):=by
 apply kU
 intro k
 rw [jg]
 by_cases hk:k<4
 ·have e1:(XE vals (l++[i]))[k]?=some ((((l++[i]).filter fun i=>decide (vals.getD i 0=(k:Nat))).length:Nat):Int):=by
   rw [XE,kF,xm hk];rfl
  have e2:(XE vals l)[k]?=some (((l.filter fun i=>decide (vals.getD i 0=(k:Nat))).length:Nat):Int):=by
   rw [XE,kF,xm hk];rfl
  rw [e1,e2,xC,qD]
  by_cases e:z=k
  ·subst e
   rw [qM rfl,qM (by rw [UH];exact hk),Z0 hz,jK (by exact qE h)]
   rfl
  ·rw [qG e,xR (by rw [qF (by rw [h];omega)];decide)]
   rfl
 ·rw [kv (by rw [UH];omega),kv (by rw [UH];omega)]
  by_cases e:z=k
  ·omega
  ·rw [qG e]
theorem aKd {l:List Mb} {idx op n rel val:Int} {r:Rf} {st:List Int} {ns:List Nat} (hn:∀ i∈ns,i<8) (hl:ns.length<=1000) (Lc:0<=val/\val<4) (h:∀ vals,BM l idx vals (.mk op n rel val r st [])=Wl rel ((ns.filter fun i=>decide (vals.getD i 0=val)).length:Nat) n):Gi l idx (.mk op n rel val r st []) 101 [.fp [EZ ns], .fp (Cd.mk op n rel val r st []).cells]:=fun vals hv=>by
 rw [h]
 obtain⟨w,rfl⟩:∃ w:Nat,val=((w:Nat):Int):=⟨val.toNat,by omega⟩
 have hw4:w<4:=by omega
 have hC:=Zz rel ((ns.filter fun i=>decide (vals.getD i 0=(w:Nat))).length:Nat) n
 have LF:=Z0 (vals:=vals) (l:=ns) hw4
 rw [<- LF] at hC ⊢
 clear LF
 have hm:(ns.map fun i=>i64 ((i:Nat):Int)).length=ns.length:=qB ..
 obtain⟨rn,rm,rp,ri⟩:=r
 refine holdsN_of_vc Tryz.func101 rfl rfl rfl ?_
 refine⟨Nat × List Int,fun x=>[(0, .ptr 0 0 0),(2, .p (.fp (Cd.mk op n rel ((w:Nat):Int) ⟨rn,rm,rp,ri⟩ st []).cells)),(5, .ptr 1 0 0),(8, .p (EZ ns)),(9, .p (i64 ns.length)),(10, .p (i64 x.1))],fun x=>⟨2,[(1,caO x.2),(0,RY vals)]⟩,fun x=>x.1<=ns.length/\x.2=XE vals (ns.take x.1),fun x=>ns.length - x.1,?_,?_⟩
 ·exact⟨(0,[0,0,0,0]),MGk,AA [] [] [] rfl ⟨MBW,rfl,MC,rfl,qH (fun n:Nat=>i64 n) hm.symm,rfl,trivial⟩ (sk) rfl⟩
 rintro⟨k,GJ⟩ ⟨k1,k2⟩
 simp only [] at k1 k2
 have IL:GJ.length=4:=by rw [k2,UH]
 refine qA (fun m1=>?_) (fun m1=>?_)
 ·have m1:(k:Int)<(ns.length:Nat):=m1
  have hk:k<ns.length:=by omega
  have AO:=aL7 hk
  have hy8:=hn _ (Aa 0 hk)
  have Ch:=AU 0 hk
  generalize ns.getD k 0=y at AO hy8 Ch
  have hc:=aHw (vals:=vals) (i:=y) hv.len hy8
  obtain⟨v0,v4⟩:=hv.val y hy8
  obtain⟨z,hz⟩:∃ z:Nat,vals.getD y 0=(z:Nat):=⟨(vals.getD y 0).toNat,by omega⟩
  have hz4:z<4:=by omega
  have hs:=aE1 (l:=ns.take k) hz4 hz
  rw [<- Ch,<- k2] at hs
  rw [hz] at hc
  have bJ:=aHx (vals:=GJ) (i:=z) IL hz4
  have ha:0<=GJ.getD z 0/\GJ.getD z 0<=1000:=by
   rw [k2,Z0 hz4]
   have:=xH (fun i=>decide (vals.getD i 0=(z:Nat))) (ns.take k)
   rw [qj] at this;omega
  generalize GJ.getD z 0=a at bJ ha hs
  refine⟨_,MEC,?_⟩
  refine⟨by show(0:Int)<=(y:Nat)/\((y:Nat):Int)<8;omega,?_⟩
  refine⟨.p (i64 (z:Nat)),Pb rfl hc,?_⟩
  refine⟨MJv,?_⟩
  refine⟨.p (i64 a),Pb rfl bJ,?_⟩
  refine MAs ?_
  refine⟨MJv,?_⟩
  refine⟨by show 0+z * (0+1)+1<=4;omega,?_⟩
  refine MAs ?_
  refine⟨(k+1,GJ.set z (a+1)),⟨by show k+1<=ns.length;omega,hs.symm⟩,AA [] [] [] rfl (sk) ⟨⟨_,rfl,rfl,rfl,_,rfl,aRT _ _ _ IL z (a+1)⟩,MBo,trivial⟩ rfl,MJ7⟩
 have m1:¬ (k:Int)<(ns.length:Nat):=m1
 rw [Ar ME] at k2
 rw [<- k2] at hC ⊢
 have bJ:=aHx (vals:=GJ) (i:=w) IL hw4
 generalize GJ.getD w 0=a at hC bJ ⊢
 refine AR aPM MK ?_
 refine⟨by show(0:Int)<=(w:Nat)/\((w:Nat):Int)<4;omega,?_⟩
 refine⟨.p (i64 a),Pb rfl bJ,?_⟩
 refine hC.eq rfl ?_
 exact MF6
end Go.Proofs.YtkegmchjobphdaaGreatDoor
namespace Go.Proofs.YtkegmchjobphdaaGreatDoor
open Go Y
set_option maxRecDepth 100000
set_option maxHeartbeats 40000000
theorem Zx (L:List (Nat × Ag)) (d:Nat) (x:PV):GH L (d+1) (.p x) x:=by
 exact MEc
theorem Qq (L:List (Nat × Ag)) (d:Nat):∀ l:List PV,EJ (GH L (d+1)) (l.map .p) l
 | []=>rfl
 | x::l=>⟨_,_,rfl,Zx L d x,Qq L d l⟩
def Es (l:List Mb) (idx:Int):List Cd->List PV->Prop
 | [],fs=>fs=[]
 | c::cs,fs=>∃ g Et r,fs=.fn (.func g) [] Et::r/\Gi l idx c g Et/\Es l idx cs r
theorem Es.snoc {l:List Mb} {idx:Int}:∀ {cs:List Cd} {fs:List PV} {c:Cd} {g:FuncId} {Et:List PV},Es l idx cs fs->Gi l idx c g Et->Es l idx (cs++[c]) (fs++[PV.fn (.func g) [] Et])
 | [],fs,c,g,Et,h,k=>by
  rw [Es] at h
  subst h
  exact⟨g,Et,[],rfl,k,rfl⟩
 | x::cs,fs,c,g,Et,h,k=>by
  obtain⟨g',aCy,r,rfl,h1,h2⟩:=h
  exact⟨g',aCy,r++[.fn (.func g) [] Et],rfl,h1,Es.snoc h2 k⟩
theorem Es.len {l:List Mb} {idx:Int}:∀ {cs:List Cd} {fs:List PV},Es l idx cs fs->fs.length=cs.length
 | [],fs,h=>by rw [Es] at h;rw [h];rfl
 | x::cs,fs,h=>by
  obtain⟨g',aCy,r,rfl,h1,h2⟩:=h
  rw [qR,qR,Es.len h2]
def fnO (fs:List PV):Ag:=⟨161,false, .pu fs⟩
def fbO (v:AV):Ag:=⟨159,false, .bx [v]⟩
def aPJ (ds:List De) (ms:List (List PV)) (ns:List (List UInt8)) (eb es:List (List UInt8 × PV)) (idx:Int) (c:Cd) (e:AE) (H':Hp):Prop:=∃ Kw g Et,Ew eb es Kw/\Gi (AY ds ds) idx c g Et/\e=.returned (.p (.fn (.func g) [] Et))/\H'=UF ds ms ns eb es Kw
section
variable {ds:List De} (ms:List (List PV)) (ns:List (List UInt8)) {eb es:List (List UInt8 × PV)} (idx:Int)
def iT (c:Cd):Prop:=∀ en,Ew eb es en->A7 cx 61 [.ptr 0 0 0, .p c.pv, .p (i64 idx)] (UF ds ms ns eb es en) (aPJ ds ms ns eb es idx c)
theorem aKZ (n rel val:Int) (r:Rf) (st:List Int):iT (ds:=ds) ms ns (eb:=eb) (es:=es) idx (.mk 0 n rel val r st []):=by
 intro en hN
 obtain⟨op,rW⟩:∃ op:Int,op=0:=⟨0,rfl⟩
 rw [<- rW]
 obtain⟨rn,rm,rp,ri⟩:=r
 refine MFK ?_
 refine Mq ?_
 rintro k rfl
 refine MD7 ?_
 refine MCr ?_
 refine MDT ?_
 refine MEQ ?_
 refine And.intro (fun _=>?_) (fun q=>absurd rW q)
 exact⟨[],[],[], .returned (.p (.fn (.func 98) [] [])),UF ds ms ns eb es en,rfl,sk,sk,en,_,_,hN,by rw [rW];exact aKa _ _ _ _ _ _ _,rfl,rfl⟩
theorem aE0 (h:BN ds) (hT:x8 ds eb es) (hi:0<=idx/\idx<=1000) {j:Nat} (hj:j<ds.length) (op n rel val:Int) (r:Rf) (st:List Int) (rW:op=1∨op=2∨op=3∨op=4∨op=5∨op=6) (hr:r∈(ds.getD j Aj).refs) (h3:r.mode=3 ↔ op=6) (Lc:op=6->0<=val) (LJ:st.length<=8) (hv:∀ k,Sj (ds.take j) (ds.getD j Aj) r=some k->FQ op n val st<k) :
  iT (ds:=ds) ms ns (eb:=eb) (es:=es) idx (.mk op n rel val r st []):=by
 intro en hN
 obtain⟨k,k1,k2,k3,k4,k5,k6,k7,k8,k9,k10⟩:=h.ref hj hr
 have hk:k<ds.length:=by omega
 have hl8:=h.eight.2
 have hA:=(lS ds hk).eq
 have hbl:(AY ds (ds.take k)).length<=1000:=by
  rw [hA,qD,qD] at hl8;omega
 have Ta:Fh ds (ds.getD k Aj)<=1000:=by
  rw [hA,qD,qD] at hl8
  rw [Fh];omega
 have hnd:=OB h.bT hk k2 k3 idx hi.1 k5 k4 k6 k7
 have Vo:=aHs ds ms ns eb es en r idx _ _ hi ⟨k5,by omega⟩ hbl Ta (by rw [<- k3];exact hT.base k hk k2) (by rw [<- k3];exact hT.size k hk k2) hN
 have aHt:=aDq (base:=(AY ds (ds.take k)).length) (size:=Fh ds (ds.getD k Aj)) (idx:=idx) k4
 have GL:∀ i∈FP (AY ds ds) r idx,i<8:=fun i hi=>by
  have:=(JA.1 hi).1;omega
 have aPK:op=6->val<4:=fun e=>by
  have hg:=hv _ k8
  rw [FQ,qG ME,qM e] at hg
  have:=(ND (h.one hk) k2).2
  omega
 have hlen:=x9 (AY ds (ds.take k)).length (Fh ds (ds.getD k Aj)) r idx Ta
 have Jg:∀ vals,BM (AY ds ds) idx vals (.mk op n rel val r st [])=aLi (Eh (AY ds (ds.take k)).length (Fh ds (ds.getD k Aj)) r idx) vals op n rel val st:=fun vals=>by
  rw [BM,qG MI8,qG MDV,qG MBc,qG ME]
  exact aDp hnd (by rw [aHt];exact h3.symm)
 rw [hnd] at GL
 clear hnd k6 k7 k8 k9 hA
 have hm6:op=6->∃ l,Eh (AY ds (ds.take k)).length (Fh ds (ds.getD k Aj)) r idx=.many l:=fun e=>aHt.2 (h3.2 e)
 have hn6:(∃ l,Eh (AY ds (ds.take k)).length (Fh ds (ds.getD k Aj)) r idx=.many l)->op=6:=fun e=>h3.1 (aHt.1 e)
 generalize Eh (AY ds (ds.take k)).length (Fh ds (ds.getD k Aj)) r idx=fd at Vo GL Jg hm6 hn6 hlen
 obtain⟨rn,rm,rp,ri⟩:=r
 cases fd with
 | none=>
  refine MFK ?_
  refine Mq ?_
  rintro k rfl
  refine MD7 ?_
  refine MCr ?_
  refine MDT ?_
  refine MEQ ?_
  refine MGt ?_
  refine Vo.holds.BB [] [] rfl (sk) (sk) fun e0 H0 hq=>?_
  obtain⟨Kw,bP,rfl,rfl⟩:=hq
  refine MDD ?_
  exact⟨[],[],[], .returned (.p (.fn (.func 103) [] [])),UF ds ms ns eb es Kw,rfl,sk,sk,Kw,_,_,bP,aKb _ _ _ Jg,rfl,rfl⟩
 | one i=>
  have ES:op ≠ 6:=fun e=>by obtain⟨l,hl⟩:=hm6 e;cases hl
  refine MFK ?_
  refine Mq ?_
  rintro k rfl
  refine MD7 ?_
  refine MCr ?_
  refine MDT ?_
  refine MEQ ?_
  refine MGt ?_
  refine Vo.holds.BB [] [] rfl (sk) (sk) fun e0 H0 hq=>?_
  obtain⟨Kw,bP,rfl,rfl⟩:=hq
  refine MDD ?_
  refine⟨[4,6],[],[], .returned (.p (.fn (.func 99) [] [.fp (Cd.mk op n rel val ⟨rn,rm,rp,ri⟩ st []).cells, .fp [i64 (i:Nat)]])),UF ds ms ns eb es Kw,rfl,⟨_,rfl,⟨rfl,_,_,rfl,rfl,⟨_,_,rfl,⟨_,rfl,?_⟩,_,_,rfl,MER,rfl⟩⟩⟩,sk,Kw,_,_,bP,aKc (GL i (qP.2 rfl)) ME Jg,rfl,rfl⟩
  exact MJW
 | many l=>
  have h6:=hn6 ⟨l,rfl⟩
  refine MFK ?_
  refine Mq ?_
  rintro k rfl
  refine MD7 ?_
  refine MCr ?_
  refine MDT ?_
  refine MEQ ?_
  refine MGt ?_
  refine Vo.holds.BB [] [] rfl (sk) (sk) fun e0 H0 hq=>?_
  obtain⟨Kw,bP,rfl,rfl⟩:=hq
  refine MDD ?_
  refine⟨[4,6],[],[], .returned (.p (.fn (.func 101) [] [.fp [EZ l], .fp (Cd.mk op n rel val ⟨rn,rm,rp,ri⟩ st []).cells])),UF ds ms ns eb es Kw,rfl,⟨_,rfl,⟨rfl,_,_,rfl,rfl,⟨_,_,rfl,MER,_,_,rfl,⟨_,rfl,?_⟩,rfl⟩⟩⟩,sk,Kw,_,_,bP,aKd GL hlen ⟨Lc h6,aPK h6⟩ Jg,rfl,rfl⟩
  exact MJW
abbrev aRS:OT:=(.pure 0 (.pure 1 (.pure 2 (.pure 3 (.A8 4 [0] (.pure 5 (.A8 6 [] (.A8 7 [] .fin .nil) .nil)) .nil)))))
theorem aNU {ar:List Cd} {k:Nat} (h:k<ar.length):(Db ar)[k]?=some (ar.getD k Fy).cells:=by
 rw [EI];exact Ct Fy h
theorem VW (op n rel val:Int) (r:Rf) (st:List Int) (ar:List Cd) (hA:∀ a∈ar,iT (ds:=ds) ms ns (eb:=eb) (es:=es) idx a)
  (rW:(op=7/\∃ a,ar=[a])∨(op=8/\∃ a b,ar=[a,b])∨(op=9/\∃ a b,ar=[a,b])):iT (ds:=ds) ms ns (eb:=eb) (es:=es) idx (.mk op n rel val r st ar):=by
 intro en hN
 have hl2:ar.length<=2:=by rcases rW with ⟨_,a,e⟩ | ⟨_,a,b,e⟩ | ⟨_,a,b,e⟩ <;> rw [e] <;> simp
 have IL:(Db ar).length=ar.length:=by rw [EI,qB]
 obtain⟨rn,rm,rp,ri⟩:=r
 refine MFK ?_
 refine⟨Nat × List PV × List (List PV × PV),fun x=>[(0, .ptr 0 0 0),(2, .p (i64 idx)),(4, .ptr 4 0 0),(7, .ptr 5 0 0),(13, .p (.Ai 10 (Db ar))),(14, .p (i64 ar.length)),(15, .p (i64 x.1))],fun x=>⟨7,(6,fnO x.2.1)::(5,fbO (.sl 6 1 0 x.2.1.length))::(4,QC (.mk op n rel val ⟨rn,rm,rp,ri⟩ st ar))::Xi ds ms ns eb es x.2.2⟩,
  fun x=>x.1<=ar.length/\Ew eb es x.2.2/\Es (AY ds ds) idx (ar.take x.1) x.2.1,fun x=>ar.length - x.1,?_,?_⟩
 ·exact⟨(0,[],en),MJq,AA [] [] [(6,1)] rfl ⟨MBt,rfl,MBW,MC,rfl,qH (fun n:Nat=>i64 n) IL.symm,rfl,trivial⟩ (sk) rfl⟩
 rintro⟨k,fs,nX⟩ ⟨k1,dQ,Qa⟩
 simp only [] at k1 dQ Qa
 have XW:=Qa.len
 rw [qj,xG k1] at XW
 refine qA (fun m1=>?_) (fun m1=>?_)
 ·have m1:(k:Int)<(ar.length:Nat):=m1
  have hk:k<ar.length:=by omega
  have AO:=aNU hk
  have hC:=hA _ (Aa Fy hk) nX dQ
  have Ch:=AU Fy hk
  generalize ar.getD k Fy=a at AO hC Ch
  obtain⟨ao,an,arl,av,⟨bn,bm,bp,bi⟩,G8,aa⟩:=a
  refine⟨_,⟨by omega,(Cd.mk ao an arl av ⟨bn,bm,bp,bi⟩ G8 aa).cells,AO,rfl⟩,?_⟩
  refine AR aRS MK ?_
  refine hC.holds.BB [] [] rfl (sk) (sk) fun e0 H0 hq=>?_
  obtain⟨Kw,g,Et,bP,hF,rfl,rfl⟩:=hq
  refine⟨rfl,_,⟨8,(Xi ds ms ns eb es Kw)++[(7,QC (.mk ao an arl av ⟨bn,bm,bp,bi⟩ G8 aa)),(6,fnO fs),(5,fbO (.sl 6 1 0 fs.length)),(4,QC (.mk op n rel val ⟨rn,rm,rp,ri⟩ st ar))]⟩,rfl,rfl,?_⟩
  refine⟨sk,?_⟩
  refine MFf ?_
  refine MAs ?_
  exact⟨(k+1,fs++[PV.fn (.func g) [] Et],Kw),⟨MI6,bP,by show Es _ _ (ar.take (k+1)) _;rw [Ch];exact Qa.snoc hF⟩,AA [] [(4,4),(5,5),(6,8)] [] rfl (sk) ⟨MFO,⟨_,rfl,rfl,rfl,_,rfl,_,_,rfl,qH (fun j:Nat=>AV.sl 8 1 0 j) (Ak fs _).symm,rfl⟩,MCU,MCx,MCv,MAv,MBo,trivial⟩ rfl,MEs⟩
 have m1:¬ (k:Int)<(ar.length:Nat):=m1
 rw [Ar ME] at Qa
 have Dh:∀ (L:List (Nat × Ag)) (h1:Aq L 5=some ⟨159,true, .bx [.sl 6 1 0 fs.length]⟩) (h2:Aq L 6=some ⟨161,true, .pu fs⟩) (g:FuncId),GH L 5 (.fn (.func g) [] [.ptr 5 0 0]) (.fn (.func g) [] [.fp [.Dh fs]]):=fun L h1 h2 g=>by
  refine⟨rfl,_,_,rfl,rfl,⟨_,_,rfl,?_,rfl⟩⟩
  simp only [GH,h1]
  refine⟨_,rfl,_,_,rfl,?_,rfl⟩
  simp only [h2]
  exact⟨_,rfl,by omega,AB rfl⟩
 refine jy rW (fun h7=>?_) (fun h89=>?_)
 ·refine zK h7.2 fun a ha=>?_
  have h7:=h7.1
  rw [ha] at Qa
  obtain⟨g,Et,r',hfs,hF,hr'⟩:=Qa
  rw [Es] at hr'
  rw [hr'] at hfs
  refine And.intro (fun _=>?_) (fun q=>absurd h7 q)
  exact⟨[5,6],[],[], .returned (.p (.fn (.func 95) [] [.fp [.Dh fs]])),UF ds ms ns eb es nX,rfl,MH5,sk,nX,_,_,dQ,by rw [h7,ha,hfs];exact aKe hF,rfl,rfl⟩
 refine jy h89 (fun h8=>?_) (fun h9=>?_)
 ·refine zK h8.2 fun a ha=>zK ha fun b ha=>?_
  have h8:=h8.1
  rw [ha] at Qa
  obtain⟨g,Et,r',hfs,hF,g',aCy,r'',hr',hF',aHu⟩:=Qa
  rw [Es] at aHu
  rw [hr',aHu] at hfs
  refine MCr ?_
  refine And.intro (fun _=>?_) (fun q=>absurd h8 q)
  exact⟨[5,6],[],[], .returned (.p (.fn (.func 96) [] [.fp [.Dh fs]])),UF ds ms ns eb es nX,rfl,MH5,sk,nX,_,_,dQ,by rw [h8,ha,hfs];exact aKf hF hF',rfl,rfl⟩
 ·refine zK h9.2 fun a ha=>zK ha fun b ha=>?_
  have h9:=h9.1
  rw [ha] at Qa
  obtain⟨g,Et,r',hfs,hF,g',aCy,r'',hr',hF',aHu⟩:=Qa
  rw [Es] at aHu
  rw [hr',aHu] at hfs
  refine MCr ?_
  refine MDT ?_
  refine And.intro (fun _=>?_) (fun q=>absurd h9 q)
  exact⟨[5,6],[],[], .returned (.p (.fn (.func 97) [] [.fp [.Dh fs]])),UF ds ms ns eb es nX,rfl,MH5,sk,nX,_,_,dQ,by rw [h9,ha,hfs];exact aKg hF hF',rfl,rfl⟩
theorem aNV (h:BN ds) (hT:x8 ds eb es) (hi:0<=idx/\idx<=1000) {j:Nat} (hj:j<ds.length) {c:Cd} (hc:NA (ds.take j) (ds.getD j Aj) c):iT (ds:=ds) ms ns (eb:=eb) (es:=es) idx c:=by
 induction hc with
 | no n rel val r st=>exact aKZ ms ns idx n rel val r st
 | leaf op n rel val r st rW hr h3 Lc LJ hv=>exact aE0 ms ns idx h hT hi hj op n rel val r st rW hr h3 Lc LJ hv
 | neg n rel val r st a ha ia=>exact VW ms ns idx 7 n rel val r st [a] (fun x hx=>by rw [qP.1 hx];exact ia) (.inl ⟨rfl,a,rfl⟩)
 | OE n rel val r st a b ha hb ia ib=>exact VW ms ns idx 8 n rel val r st [a,b] (fun x hx=>(qw.1 hx).elim (fun e=>by rw [e];exact ia) (fun hx=>by rw [qP.1 hx];exact ib)) (.inr (.inl ⟨rfl,a,b,rfl⟩))
 | Sc n rel val r st a b ha hb ia ib=>exact VW ms ns idx 9 n rel val r st [a,b] (fun x hx=>(qw.1 hx).elim (fun e=>by rw [e];exact ia) (fun hx=>by rw [qP.1 hx];exact ib)) (.inr (.inr ⟨rfl,a,b,rfl⟩))
end
end Go.Proofs.YtkegmchjobphdaaGreatDoor
namespace Go.Proofs.YtkegmchjobphdaaGreatDoor
open Go Y
set_option maxRecDepth 100000
set_option maxHeartbeats 40000000
theorem iP (a b:Int):Pure cx 49 [i64 a,i64 b] (·=.ret [i64 0]):=by
 refine pure_of_vc Tryz.func49 rfl rfl rfl ?_
 exact MAl
abbrev aPC:PV:=.fn (.func 49) [] []
def aHj (rs:List (List Int)):PV:=match rs with
 | []=>.Ad
 | _::_=>F5 rs
abbrev PI (x:Nd):List PV:=[i64 x.card,EZ x.Jp,aHj x.rows]
def aPD (NS:List (List PV)):Ag:=⟨72,false, .GN NS⟩
def aKT (gr:Int) (v:AV):Ag:=⟨56,false, .bx [.p (i64 gr),v]⟩
def chO:Ag:=⟨141,false, .bx [.p aPC]⟩
def nbO (x:Nd) (v:AV):Ag:=⟨72,false, .bx [.p (i64 x.card), .p (EZ x.Jp),v]⟩
def aPE (rs:List (List Int)):Ag:=⟨31,false, .pu (rs.map ints)⟩
abbrev fiH (g:Gr) (n:Nat) (NS:List (List PV)):List (Nat × Ag):=[(4,aPD NS),(3,aKT g.BS (.sl 4 3 0 n)),(2,aKT 0 (.p .Ad)),(1,chO),(0,Q9 g)]
abbrev aRR:OT:=(.pure 0 (.pure 1 (.pure 2 (.pure 3 (.A8 4 [1] (.pure 5 (.A8 6 [3,1] (.A8 7 [] .fin .nil) .nil)) (.A8 6 [3,1] (.A8 4 [1] (.pure 5 (.A8 7 [] .fin .nil)) .nil) .nil))))))
abbrev aPF:OT:=(.pure 0 (.pure 1 (.pure 2 (.A8 3 [1] (.A8 4 [1] (.A8 5 [] (.pure 6 (.A8 7 [] .fin .nil)) .nil) .nil) .nil))))
abbrev aL9:OT:=(.pure 0 (.pure 1 (.pure 2 (.pure 3 (.pure 4 (.pure 5 (.pure 6 (.pure 7 (.pure 8 (.pure 9 (.pure 10 (.pure 11 (.pure 12 (.pure 13 (.pure 14 (.pure 15 (.pure 16 (.pure 17 (.pure 18 (.pure 19 (.A8 20 [16,12,10,8,4,1] (.A8 21 [8,4,1] (.A8 22 [8,4,1] (.A8 23 [1] (.pure 24 (.pure 25 (.A8 26 [] .fin .nil))) .nil) .nil) .nil) .nil)))))))))))))))))))))
def inH (g:Gr) (x:Nd) (k:Nat) (NS:List (List PV)):List (List Int)->Hp
 | []=>⟨6,(5,nbO x (.p .Ad))::fiH g k NS⟩
 | r::R=>⟨7,(6,aPE (r::R))::(5,nbO x (.sl 6 1 0 (R.length+1)))::fiH g k NS⟩
structure aMV (g:Gr):Prop where
 par:∀ x∈g.nodes,x.Jp.length<=8
 rows:∀ x∈g.nodes,x.rows.length<=65536/\∀ r∈x.rows,r.length<=8
def aHk (dec:Nat) (gr:Int) (N:List Nd) (k:Nat) (x:Nd):PV:=if dec.testBit k=true then F5 (List.replicate (Cf (ED N x.Jp)).toNat (I8 gr x.card)) else aHj x.rows
abbrev aEx (dec:Nat) (gr:Int) (N:List Nd) (k:Nat) (x:Nd):List PV:=[i64 x.card,EZ x.Jp,aHk dec gr N k x]
def Kv (dec:Nat) (gr:Int) (N:List Nd) (k:Nat):List (List PV):=(List.range N.length).map fun i=>if i<k then aEx dec gr N i (N.getD i H5) else PI (N.getD i H5)
theorem aKU (dec:Nat) (gr:Int) (N:List Nd) (k:Nat):(Kv dec gr N k).length=N.length:=by rw [Kv,qB,kT]
theorem aHn (dec:Nat) (gr:Int) (N:List Nd):Kv dec gr N 0=N.map PI:=by
 refine kU fun i=>?_
 rw [Kv,kF,kF]
 by_cases hi:i<N.length
 ·rw [xm hi,qW hi]
  show some (if i<0 then _ else PI (N.getD i H5))=some (PI N[i])
  rw [qG ME,qK,qW hi];rfl
 ·rw [kv (by rw [kT];omega),kv ME];rfl
theorem iQ (dec:Nat) (gr:Int) (N:List Nd) {k:Nat} (hk:k<N.length):∃ A B,A.length=k/\Kv dec gr N k=A++PI (N.getD k H5)::B/\Kv dec gr N (k+1)=A++aEx dec gr N k (N.getD k H5)::B:=by
 obtain⟨m,hm⟩:∃ m,N.length=k+(m+1):=⟨N.length - k - 1,by omega⟩
 refine⟨(List.range k).map fun i=>aEx dec gr N i (N.getD i H5),(List.range m).map fun i=>PI (N.getD (k+(i+1)) H5),by rw [qB,kT],?_,?_⟩
 ·rw [Kv,hm,zu,qX,vv,kI,kI,kr,kr]
  congr 1
  ·exact xO fun i hi=>by rw [qM (xP.1 hi)]
  ·congr 1
   ·rw [qG ME];rfl
   ·exact xO fun i hi=>by
     show(if k+(i+1)<k then _ else _)=_
     rw [qG ME]
 ·rw [Kv,hm,zu,qX,vv,kI,kI,kr,kr]
  congr 1
  ·exact xO fun i hi=>by have:=xP.1 hi;rw [qM ME]
  ·congr 1
   ·rw [qM ME];rfl
   ·exact xO fun i hi=>by
     show(if k+(i+1)<k+1 then _ else _)=_
     rw [qG ME]
def fiL (g:Gr) (NS:List (List PV)) (st:LoopState) (N:Nat) (σ:Sg) (ps:List Tmp) (ac bd:Code):List (Nat × Ag):=(6,lpO st none 5 N σ ps ac bd)::(5,aKV)::fiH g g.nodes.length NS
theorem aNR (g:Gr) (dec:Nat) (hG:Xz g dec) (N:Nat) (σ Wo:Sg) (ds:List AD) (ps:List Tmp) (ac bd:Code) (Q:KQ)
  (Iq:Q .normal Wo ds ⟨7,fiL g (Kv dec g.BS g.nodes g.nodes.length) .exhausted N σ ps ac bd⟩)
  (Wq:∀ (k pl:Nat) (K:AE->Hp->Prop),k<g.nodes.length->dec.testBit k=true->K (.returned (vB true)) ⟨7,fiL g (Kv dec g.BS g.nodes (k+1)) .ready N σ ps ac bd⟩->Li cx 6 [.p (i64 (pl:Nat)), .p (i64 (k:Nat))] ⟨7,fiL g (Kv dec g.BS g.nodes k) .ready N σ ps ac bd⟩ K) :
  A7 cx 122 [.fn (.yield 6) [] [], .p (.fp (Zt g))] ⟨7,fiL g (Kv dec g.BS g.nodes 0) .ready N σ ps ac bd⟩ (Ro 6 Wo ds Q):=by
 have hm:(g.nodes.map Nd.cells).length=g.nodes.length:=qB ..
 have h64:dec<18446744073709551616:=jr hG.small (Zr MKQ)
 have h8:=hG.len.2
 have VT:=hG.small
 have Iy:=hG.bare
 obtain⟨gn,gr,nd,gd,ut⟩:=g
 obtain rfl:gd=(dec:Nat):=hG.aHl
 simp only [] at hm h8 Iq Wq VT Iy
 refine holdsN_of_vc Tryz.func122 rfl rfl rfl ?_
 refine⟨Nat × Nat × List (List PV),fun x=>[(0, .fn (.yield 6) [] []),(1, .p (.fp (Zt ⟨gn,gr,nd,(dec:Nat),ut⟩))),(3, .p (i64 x.2.1)),(7, .p (i64 nd.length)),(8, .p (i64 x.1))],fun x=>⟨7,fiL ⟨gn,gr,nd,(dec:Nat),ut⟩ x.2.2 .ready N σ ps ac bd⟩,
  fun x=>x.1<=nd.length/\x.2.1<=x.1/\x.2.2=Kv dec gr nd x.1,fun x=>nd.length - x.1,?_,?_⟩
 ·refine⟨(0,0,Kv dec gr nd 0),⟨qL _,qL _,rfl⟩,AA [] [] [] rfl MHs ?_ rfl⟩
  exact MV
 rintro⟨k,pl,NS⟩ ⟨k1,k2,k3⟩
 simp only [] at k1 k2 k3
 refine qA (fun m1=>?_) (fun m1=>?_)
 rotate_left
 ·have m1:¬ (k:Int)<(nd.length:Nat):=m1
  obtain rfl:k=nd.length:=by omega
  rw [<- k3] at Iq
  refine⟨[],[],[], .returned Bv,⟨7,fiL ⟨gn,gr,nd,(dec:Nat),ut⟩ NS .ready N σ ps ac bd⟩,rfl,sk,?_,Iq⟩
  exact MV
 have m1:(k:Int)<(nd.length:Nat):=m1
 have hk:k<nd.length:=by omega
 refine⟨by show(0:Int)<=k;omega,?_⟩
 refine⟨_,(Zq (k:=k) h64).trans (by rw [<- Xc ME];rfl),?_⟩
 refine qA (fun q1=>?_) (fun q1=>?_)
 ·have hb:dec.testBit k=false:=by
   cases e:dec.testBit k
   ·rfl
   ·rw [e] at q1;exact absurd q1 ML
  have hs:Kv dec gr nd (k+1)=Kv dec gr nd k:=by
   obtain⟨A,B,_,e1,e2⟩:=iQ dec gr nd hk
   rw [e1,e2,aEx,PI,aHk,hb,qG ML]
  refine MAs ?_
  refine⟨(k+1,pl,NS),⟨MDv,by show pl<=k+1;omega,by rw [hs];exact k3⟩,AA [] [] [] rfl ME2 ?_ rfl,MCw⟩
  exact MV
 have hb:dec.testBit k=true:=by
  exact MJt
 have hr:=fun K=>Wq k pl K hk hb
 rw [<- k3] at hr
 obtain⟨NS',bP⟩:∃ x,x=Kv dec gr nd (k+1):=MX
 rw [<- bP] at hr
 refine hr _ ?_
 refine⟨(pl:Int)+1,wrap_i64 MBc ME,?_⟩
 refine⟨(k:Int)+1,wrap_i64 MBc ME,?_⟩
 refine⟨(k+1,pl+1,NS'),⟨MDv,by show pl+1<=k+1;omega,bP⟩,AA [] [] [] rfl ME2 ?_ rfl,MCw⟩
 exact MV
theorem EG {α:Type} {A B:List α} {m:α} {k:Nat} (h:A.length=k):(A++m::B)[0+((k:Nat):Int).toNat]?=some m:=by
 rw [kL,ql,xA ME,h,jZ];rfl
theorem Xh {α:Type} {A B:List α} {m m':α} {k:Nat} (h:A.length=k):(A++m::B).set (0+((k:Nat):Int).toNat) m'=A++m'::B:=by
 rw [kL,ql,List.set_append_right _ _ ME,h,jZ];rfl
theorem Zu:∀ (A:List (List PV)) (x:List PV) (B:List (List PV)),Cg (A++x::B)=Cg A++x.map .p::Cg B
 | [],x,B=>rfl
 | a::A,x,B=>by
  show a.map AV.p::Cg (A++x::B)=a.map AV.p::(Cg A++_)
  rw [Zu A x B]
theorem Nj:∀ A:List (List PV),(Cg A).length=A.length
 | []=>rfl
 | a::A=>by show(Cg A).length+1=_;rw [Nj A];rfl
theorem Zv (L:List (Nat × Ag)):∀ A:List (List PV),J4 (GH L 5) (Cg A) A
 | []=>rfl
 | a::A=>⟨_,_,rfl,Qq L 4 a,Zv L A⟩
theorem VU {L:List (Nat × Ag)} {u:List AV} {y:List PV} {B:List (List PV)} (h:EJ (GH L 5) u y):∀ A:List (List PV),J4 (GH L 5) (Cg A++u::Cg B) (A++y::B)
 | []=>⟨_,_,rfl,h,Zv L B⟩
 | a::A=>⟨_,_,rfl,Qq L 4 a,VU h A⟩
theorem Zw (ρ:Nat->Nat) (ni:List (Nat × Nat)) (L:List (Nat × Ag)):∀ A:List (List PV),Pf ρ ni L (Cg A) (Cg A)
 | []=>rfl
 | a::A=>⟨_,_,rfl,Dc ρ ni L a,Zw ρ ni L A⟩
theorem VV {ρ:Nat->Nat} {ni:List (Nat × Nat)} {L:List (Nat × Ag)} {u v:List AV} {B:List (List PV)} (h:GM ρ ni L u v):∀ A:List (List PV),Pf ρ ni L (Cg A++u::Cg B) (Cg A++v::Cg B)
 | []=>⟨_,_,rfl,h,Zw ρ ni L B⟩
 | a::A=>⟨_,_,rfl,Dc ρ ni L a,VV h A⟩
theorem aKW {L:List (Nat × Ag)} {A B:List (List PV)} {k:Nat} (hA:A.length=k) (c p:PV) {v:AV} {rs:PV} (hv:GH L 5 v rs):J4 (GH L 5) ((Cg (A++[c,p, .Ad]::B)).set (0+((k:Nat):Int).toNat) [.p c, .p p,v]) (A++[c,p,rs]::B):=by
 rw [Zu,Xh MHo]
 refine VU ?_ A
 exact MIK
theorem aHo {L:List (Nat × Ag)} {A B:List (List PV)} {k:Nat} (hA:A.length=k) (c p:PV) {u v:AV} {rs:PV} (hv:GH L 5 v rs):J4 (GH L 5) ((Cg A++[.p c, .p p,u]::Cg B).set (0+((k:Nat):Int).toNat) [.p c, .p p,v]) (A++[c,p,rs]::B):=by
 rw [Xh MHo]
 refine VU ?_ A
 exact MIK
theorem aHp {ρ:Nat->Nat} {ni:List (Nat × Nat)} {L:List (Nat × Ag)} {A B:List (List PV)} {k:Nat} (hA:A.length=k) (c p:PV) {v v':AV} (hv:U0 ρ ni L v v'):Pf ρ ni L ((Cg (A++[c,p, .Ad]::B)).set (0+((k:Nat):Int).toNat) [.p c, .p p,v]) (Cg A++[.p c, .p p,v']::Cg B):=by
 rw [Zu,Xh MHo]
 refine VV ?_ A
 exact MIj
theorem aEy {ρ:Nat->Nat} {ni:List (Nat × Nat)} {L:List (Nat × Ag)} {A B:List (List PV)} {k:Nat} (hA:A.length=k) (c p:PV) {u v v':AV} (hv:U0 ρ ni L v v'):Pf ρ ni L ((Cg A++[.p c, .p p,u]::Cg B).set (0+((k:Nat):Int).toNat) [.p c, .p p,v]) (Cg A++[.p c, .p p,v']::Cg B):=by
 rw [Xh MHo]
 refine VV ?_ A
 exact MIj
inductive FiS where
 | zero
 | live (i:Nat)
 | fin
def fsV (GJ:Nat):FiS->Nat
 | .zero=>0
 | .live i=>i+1
 | .fin=>GJ
def fsP (GJ:Nat):FiS->Prop
 | .live i=>i+1<GJ
 | _=>True
def lvO (A:List (List PV)) (x:Nd) (B:List (List PV)) (v:AV):Ag:=⟨72,false, .Gw (Cg A++[.p (i64 x.card), .p (EZ x.Jp),v]::Cg B)⟩
def fsH (g:Gr) (A:List (List PV)) (x:Nd) (B:List (List PV)) (row:List Int) (GJ:Nat) (N:Nat) (σ:Sg) (ps:List Tmp) (ac bd:Code):FiS->Hp
 | .zero=>⟨7,fiL g (A++[i64 x.card,EZ x.Jp, .Ad]::B) .busy N σ ps ac bd⟩
 | .live i=>⟨8,[(7,aPE (List.replicate (i+1) row)),(6,lpO .busy none 5 N σ ps ac bd),(5,aKV),(4,lvO A x B (.sl 7 1 0 (i+1))),(3,aKT g.BS (.sl 4 3 0 g.nodes.length)),(2,aKT 0 (.p .Ad)),(1,chO),(0,Q9 g)]⟩
 | .fin=>⟨7,fiL g (A++[i64 x.card,EZ x.Jp,F5 (List.replicate GJ row)]::B) .busy N σ ps ac bd⟩
theorem w9 {N:List Nd} (hc:∀ x∈N,Hz x.card) {ps:List Nat} (hp:ps.length<=8) (hi:∀ p∈ps,p<N.length):∃ GJ:Nat,Cf (ED N ps)=(GJ:Nat)/\1<=GJ/\GJ<=65536:=by
 have PO:∀ c∈ED N ps,Hz c:=fun c Wi=>by
  exact MKO
 have hl:(ED N ps).length=ps.length:=qB ..
 have:=Eo PO ME (qN _)
 rw [Ar (qN _)] at this
 exact⟨(Cf (ED N ps)).toNat,by omega,by omega,by omega⟩
theorem aBT (g:Gr) (dec:Nat) (hG:Xz g dec) (hB:aMV g):Pure cx 48 [.agg (Zt g),aPC] (·=.ret [.agg [i64 g.BS, .Ai 3 (Kv dec g.BS g.nodes g.nodes.length)]]):=by
 have hm:(g.nodes.map Nd.cells).length=g.nodes.length:=qB ..
 obtain⟨l1,l8⟩:=hG.len
 have hbp:=hB.par
 have hbr:=hB.rows
 obtain⟨gn,gr,nd,gd,ut⟩:=g
 obtain rfl:gd=(dec:Nat):=hG.aHl
 simp only [] at hm l1 l8 hbp hbr
 refine pure_of_vc Tryz.func48 rfl rfl rfl ?_
 refine⟨Nat × List (List PV),fun x=>[(2, .ptr 0 0 0),(3, .ptr 1 0 0),(4, .ptr 2 0 0),(5, .ptr 3 0 0),(18, .p (.Ai 3 (nd.map Nd.cells))),(19, .p (i64 nd.length)),(20, .p (i64 x.1))],fun x=>⟨5,fiH ⟨gn,gr,nd,(dec:Nat),ut⟩ x.1 x.2⟩,fun x=>x.1<=nd.length/\x.2=(nd.take x.1).map PI,fun x=>nd.length - x.1,?_,?_⟩
 ·exact⟨(0,[]),MGk,AA [] [] [(4,3)] rfl ⟨MCW,MBt,MBW,MC,rfl,qH (fun n:Nat=>i64 n) hm.symm,rfl,trivial⟩ (sk) rfl⟩
 rintro⟨k,NS⟩ ⟨hk,hNS⟩
 simp only [] at hk hNS
 refine qA (fun m1=>?_) (fun m1=>?_)
 ·have m1:(k:Int)<(nd.length:Nat):=m1
  have J2:k<nd.length:=by omega
  have AO:=Oq J2
  have Dy:=Aa H5 J2
  have hp8:=hbp _ Dy
  obtain⟨hr6,hrr⟩:=hbr _ Dy
  have Ch:(nd.take (k+1)).map PI=(nd.take k).map PI++[PI (nd.getD k H5)]:=by rw [AU H5 J2,qX];rfl
  have hNl:((nd.take k).map PI).length=k:=by rw [qB,qj];omega
  rw [<- hNS] at Ch hNl
  generalize nd.getD k H5=x at AO hp8 hr6 hrr Ch
  obtain⟨xc,xp,xr⟩:=x
  have hp8:xp.length<=8:=hp8
  have hr6:xr.length<=65536:=hr6
  have hrr:∀ r∈xr,r.length<=8:=hrr
  have IL:=iR (EH xp) MAI
  rw [<- JH] at IL
  refine⟨_,MJE,?_⟩
  refine Er [(2, .ptr 0 0 0),(3, .ptr 1 0 0),(4, .ptr 2 0 0),(5, .ptr 3 0 0),(7, .ptr 5 0 0),(8, .ptr 6 0 0),(18, .p (.Ai 3 (nd.map Nd.cells))),(19, .p (i64 nd.length)),(20, .p (i64 k))] ⟨7,(6,nbO ⟨xc,xp,xr⟩ (.p .Ad))::(5,ndO ⟨xc,xp,xr⟩)::fiH ⟨gn,gr,nd,(dec:Nat),ut⟩ k NS⟩ aRR MK ?_ ?_
  ·refine And.intro ?_ ?_
   ·refine IL.eq rfl ?_
    refine⟨sk,?_⟩
    exact MAk
   ·refine⟨sk,?_⟩
    refine IL.eq rfl ?_
    exact MAk
  have hrl:(xr.map ints).length=xr.length:=qB ..
  refine⟨Nat × List (List Int),fun y=>[(2, .ptr 0 0 0),(3, .ptr 1 0 0),(4, .ptr 2 0 0),(5, .ptr 3 0 0),(8, .ptr 5 0 0),(18, .p (.Ai 3 (nd.map Nd.cells))),(19, .p (i64 nd.length)),(20, .p (i64 k)),(31, .p (F5 xr)),(32, .p (i64 xr.length)),(33, .p (i64 y.1))],fun y=>inH ⟨gn,gr,nd,(dec:Nat),ut⟩ ⟨xc,xp,xr⟩ k NS y.2,fun y=>y.1<=xr.length/\y.2=xr.take y.1,fun y=>xr.length - y.1,?_,?_⟩
  ·refine⟨(0,[]),MGk,AA [] [(5,6)] [] rfl ⟨⟨rfl,rfl⟩,MCW,MBt,MBW,MC,rfl,rfl,rfl,rfl,qH (fun n:Nat=>i64 n) hrl.symm,rfl,trivial⟩ ?_ rfl⟩
   exact⟨⟨_,rfl,rfl,rfl,_,rfl,_,_,rfl,rfl,_,_,rfl,rfl,_,_,rfl,A9 _ _,rfl⟩,
   ⟨_,rfl,rfl,rfl,rfl⟩,⟨_,rfl,rfl,rfl,_,rfl,_,_,rfl,rfl,_,_,rfl,rfl,rfl⟩,⟨_,rfl,rfl,rfl,_,rfl,_,_,rfl,rfl,_,_,rfl,A9 _ _,rfl⟩,⟨_,rfl,rfl,rfl,_,rfl,_,_,rfl,A9 _ _,rfl⟩,⟨_,rfl,rfl,rfl,_,rfl,_,_,rfl,rfl,_,_,rfl,rfl,_,_,rfl,rfl,_,_,rfl,rfl,rfl⟩,trivial⟩
  rintro⟨j,R⟩ ⟨hj,hR⟩
  simp only [] at hj hR
  by_cases hjl:j<xr.length
  ·have hnR:xr.take (j+1)=R++[xr.getD j []]:=by rw [hR,AU [] hjl]
   have XD:(xr.map ints)[j]?=some (ints (xr.getD j [])):=Ct (f:=ints) [] hjl
   have hrz:=hrr _ (Aa [] hjl)
   have hRl:R.length=j:=by rw [hR,qj];omega
   generalize xr.getD j []=r at hnR XD hrz
   have hcr:=iR r ME
   cases R with
   | nil=>
    refine MKW ?_
    refine⟨_,⟨by omega,ints r,XD,rfl⟩,?_⟩
    refine AR aPF MK ?_
    refine hcr.eq rfl ?_
    refine⟨sk,?_⟩
    refine⟨sk,?_⟩
    refine⟨MO,[ints r],rfl,?_⟩
    refine⟨ML,?_⟩
    refine MAs ?_
    refine⟨(j+1,[r]),MJK,AA [] [(6,7)] [] rfl MG8 ?_ rfl,MKE⟩
    exact⟨MAv,⟨_,rfl,rfl,rfl,_,rfl,_,_,rfl,rfl,_,_,rfl,rfl,_,_,rfl,rfl,rfl⟩,
    ⟨_,rfl,rfl,rfl,rfl⟩,⟨_,rfl,rfl,rfl,_,rfl,_,_,rfl,rfl,_,_,rfl,rfl,rfl⟩,⟨_,rfl,rfl,rfl,_,rfl,_,_,rfl,rfl,_,_,rfl,A9 _ _,rfl⟩,⟨_,rfl,rfl,rfl,_,rfl,_,_,rfl,A9 _ _,rfl⟩,⟨_,rfl,rfl,rfl,_,rfl,_,_,rfl,rfl,_,_,rfl,rfl,_,_,rfl,rfl,_,_,rfl,rfl,rfl⟩,trivial⟩
   | cons r0 R=>
    refine MKW ?_
    refine⟨_,⟨by omega,ints r,XD,rfl⟩,?_⟩
    refine AR aPF MK ?_
    refine hcr.eq rfl ?_
    refine⟨sk,?_⟩
    refine⟨sk,?_⟩
    refine⟨MO,[ints r],rfl,?_⟩
    refine⟨MFo,(r0::R).map ints,AB (by rw [qB];rfl),by show(R.length+1+1) * 24<=140737488355328;have:R.length+1=j:=hRl;omega,((r0::R)++[r]).map ints,by simp,?_⟩
    refine MAs ?_
    refine⟨(j+1,(r0::R)++[r]),MJK,AA [] [(6,8)] [] rfl MG8 ?_ rfl,MKE⟩
    exact⟨MAv,⟨_,rfl,rfl,rfl,_,rfl,_,_,rfl,rfl,_,_,rfl,rfl,_,_,rfl,qH (fun n:Nat=>AV.sl 8 1 0 (n+1)) (Ak R r).symm,rfl⟩,
    ⟨_,rfl,rfl,rfl,rfl⟩,⟨_,rfl,rfl,rfl,_,rfl,_,_,rfl,rfl,_,_,rfl,rfl,rfl⟩,⟨_,rfl,rfl,rfl,_,rfl,_,_,rfl,rfl,_,_,rfl,A9 _ _,rfl⟩,⟨_,rfl,rfl,rfl,_,rfl,_,_,rfl,A9 _ _,rfl⟩,⟨_,rfl,rfl,rfl,_,rfl,_,_,rfl,rfl,_,_,rfl,rfl,_,_,rfl,rfl,_,_,rfl,rfl,rfl⟩,trivial⟩
  ·obtain rfl:j=xr.length:=by omega
   rw [Ar (qN _)] at hR
   subst hR
   cases R with
   | nil=>
    refine And.intro (fun h=>absurd (show((([]:List (List Int)).length:Nat):Int)<(([]:List (List Int)).length:Nat) from h) ME) (fun _=>?_)
    refine⟨MO,[PI ⟨xc,xp,[]⟩],rfl,?_⟩
    refine⟨by show 0+k<=NS.length;omega,NS,AB hNl,MKr,NS++[PI ⟨xc,xp,[]⟩],rfl,?_⟩
    refine MAs ?_
    refine⟨(k+1,NS++[PI ⟨xc,xp,[]⟩]),⟨MDv,Ch.symm⟩,AA [] [(4,7)] [] rfl MJg ?_ rfl,MCw⟩
    exact MCf
   | cons r0 R=>
    refine And.intro (fun h=>absurd (show(((r0::R).length:Nat):Int)<((r0::R).length:Nat) from h) ME) (fun _=>?_)
    refine⟨MO,_,rfl, .inl ⟨[6],[PI ⟨xc,xp,r0::R⟩],rfl,⟨_,_,rfl,⟨_,_,rfl,rfl,_,_,rfl,rfl,_,_,rfl,⟨_,rfl,MFo,AB (by rw [qB];rfl)⟩,rfl⟩,rfl⟩,?_⟩⟩
    refine⟨by show 0+k<=NS.length;omega,NS,AB hNl,MKr,NS++[PI ⟨xc,xp,r0::R⟩],rfl,?_⟩
    refine MAs ?_
    refine⟨(k+1,NS++[PI ⟨xc,xp,r0::R⟩]),⟨MDv,Ch.symm⟩,AA [] [(4,8)] [] rfl MJg ?_ rfl,MCw⟩
    exact MCf
 obtain rfl:k=nd.length:=by omega
 rw [Ar (qN _)] at hNS
 have hD:=WV ⟨gn,gr,nd,(dec:Nat),ut⟩
 refine hD.eq rfl ?_
 refine NN ?_
 intro σ' ps ac bd e1 e2 e3 e4
 have hI:=aNR ⟨gn,gr,nd,(dec:Nat),ut⟩ dec hG
 simp only [] at hI
 rw [aHn,<- hNS] at hI
 refine hI _ σ' _ _ ps ac bd _ ?_ ?_
 ·have hml:=aKU dec gr nd nd.length
  generalize Kv dec gr nd nd.length=Y at hml ⊢
  exact AL (.agg [i64 gr, .Ai 3 Y]) rfl ⟨_,rfl,_,_,rfl,rfl,_,_,rfl,⟨_,rfl,by show 0+nd.length<=Y.length;omega,AB hml⟩,rfl⟩ rfl
 intro k pl K J2 hb hK
 subst e1 e2 e3 e4
 refine GZ rfl rfl rfl ?_
 obtain⟨A,B,hA,eA,eB⟩:=iQ dec gr nd J2
 rw [eB] at hK
 rw [eA]
 have dP:=Aa H5 J2
 have hxr:=hG.bare k J2 hb
 have hxc:=hG.card _ dP
 have hx8:=hbp _ dP
 have hxi:∀ p∈(nd.getD k H5).Jp,p<nd.length:=fun p hp=>by
  have:=(Ni (hG.par _ dP) _ (qz.2 MKn)).2
  exact_mod_cast this
 have hR:=aPG nd k J2 l8 hG.card hx8 hxi
 obtain⟨GJ,aET,hc1,bJ⟩:=w9 hG.card hx8 hxi
 rw [aET] at hR
 have Hr:aEx dec gr nd k (nd.getD k H5)=[i64 (nd.getD k H5).card,EZ (nd.getD k H5).Jp,F5 (List.replicate GJ (I8 gr (nd.getD k H5).card))]:=by
  rw [aEx,aHk,qM hb,aET,kL]
 rw [Hr] at hK
 have AO:=Oq J2
 have hRo:=aKX gr (nd.getD k H5).card hxc
 clear Hr eA eB hI hD
 generalize nd.getD k H5=x at hxr hxc hR hK AO hRo
 obtain⟨xc,xp,xr⟩:=x
 obtain rfl:xr=[]:=hxr
 refine hR.eq rfl ?_
 obtain⟨row,Jt⟩:∃ row,row=I8 gr xc:=MX
 simp only [] at hRo hK
 rw [<- Jt] at hRo hK
 apply sP (C:=cx) (α:=FiS) (fun s=>[(2, .ptr 0 0 0),(3, .ptr 1 0 0),(4, .ptr 2 0 0),(5, .ptr 3 0 0),(11, .p (i64 (pl:Nat))),(12, .p (i64 (k:Nat))),(59, .p (i64 (GJ:Nat))),(60, .p (i64 (fsV GJ s:Nat)))]) (fun N σ ps ac bd s=>fsH ⟨gn,gr,nd,(dec:Nat),ut⟩ A ⟨xc,xp,[]⟩ B row GJ N σ ps ac bd s) (fsP GJ) (fun s=>GJ - fsV GJ s)
 ·refine⟨.zero,trivial,AA [] [] [] rfl MDJ ?_ rfl⟩
  exact MV
 intro s hs
 have hA':(Cg A).length=k:=MHo
 cases s with
 | zero=>
  refine And.intro (fun _=>?_) (fun h=>absurd (show(0:Int)<(GJ:Nat) by omega) h)
  refine AR aL9 MK ?_
  refine⟨MDh,?_⟩
  refine⟨_,⟨_,_,EG hA,rfl,rfl⟩,?_⟩
  refine⟨_,MDx,?_⟩
  refine(iP (pl:Nat) ((0:Nat):Int)).eq rfl ?_
  refine⟨by(repeat' first | exact trivial | exact rfl | exact⟨_,_,EG hA,rfl,rfl⟩ | exact⟨_,EG hA',rfl⟩ | exact⟨_,AO,rfl⟩ | refine And.intro ?_ ?_),?_⟩
  refine hRo.eq rfl ?_
  refine⟨by(repeat' first | exact trivial | exact rfl | exact⟨_,_,EG hA,rfl,rfl⟩ | exact⟨_,EG hA',rfl⟩ | exact⟨_,AO,rfl⟩ | refine And.intro ?_ ?_),?_⟩
  refine⟨by(repeat' first | exact trivial | exact rfl | exact⟨_,_,EG hA,rfl,rfl⟩ | exact⟨_,EG hA',rfl⟩ | exact⟨_,AO,rfl⟩ | refine And.intro ?_ ?_),?_⟩
  refine⟨MO,[ints row],rfl,?_⟩
  refine⟨ML,?_⟩
  refine⟨by(repeat' first | exact trivial | exact rfl | exact⟨_,_,EG hA,rfl,rfl⟩ | exact⟨_,EG hA',rfl⟩ | exact⟨_,AO,rfl⟩ | refine And.intro ?_ ?_),?_⟩
  refine⟨MDh,?_⟩
  refine⟨_,EG hA,by show 0+2+1<=3;omega,?_⟩
  refine MAs ?_
  by_cases h1:GJ=1
  ·subst h1
   refine⟨.fin,trivial,AA [8] [] [] rfl MDJ ?_ rfl,by show 1 - 1<1 - 0;omega⟩
   refine⟨MCV,MAv,⟨_,rfl,rfl,rfl,?_⟩,
   ⟨_,rfl,rfl,rfl,_,rfl,_,_,rfl,rfl,_,_,rfl,rfl,rfl⟩,⟨_,rfl,rfl,rfl,_,rfl,_,_,rfl,rfl,_,_,rfl,A9 _ _,rfl⟩,⟨_,rfl,rfl,rfl,_,rfl,_,_,rfl,A9 _ _,rfl⟩,⟨_,rfl,rfl,rfl,_,rfl,_,_,rfl,rfl,_,_,rfl,rfl,_,_,rfl,rfl,_,_,rfl,rfl,rfl⟩,trivial⟩
   refine aKW hA (i64 xc) (EZ xp) (v:=.sl 8 1 0 1) (rs:=F5 (List.replicate 1 row)) ?_
   exact⟨_,rfl,MO,rfl⟩
  ·refine⟨.live 0,by show 0+1<GJ;omega,AA [] [(7,8)] [] rfl MDJ ?_ rfl,by show GJ - (0+1)<GJ - 0;omega⟩
   refine⟨MCv,MCV,MAv,⟨_,rfl,rfl,rfl,_,rfl,?_⟩,
   ⟨_,rfl,rfl,rfl,_,rfl,_,_,rfl,rfl,_,_,rfl,rfl,rfl⟩,⟨_,rfl,rfl,rfl,_,rfl,_,_,rfl,rfl,_,_,rfl,A9 _ _,rfl⟩,⟨_,rfl,rfl,rfl,_,rfl,_,_,rfl,A9 _ _,rfl⟩,⟨_,rfl,rfl,rfl,_,rfl,_,_,rfl,rfl,_,_,rfl,rfl,_,_,rfl,rfl,_,_,rfl,rfl,rfl⟩,trivial⟩
   refine aHp hA (i64 xc) (EZ xp) (v:=.sl 8 1 0 1) (v':=.sl 7 1 0 (0+1)) ?_
   exact rfl
 | live i=>
  have hs:i+1<GJ:=hs
  have hrl:((List.replicate (i+1) row).map ints).length=i+1:=by rw [qB,kz]
  refine And.intro (fun _=>?_) (fun h=>absurd (show((i+1:Nat):Int)<(GJ:Nat) by omega) h)
  refine AR aL9 MK ?_
  refine⟨MDh,?_⟩
  refine⟨_,⟨_,EG hA',rfl⟩,?_⟩
  refine⟨_,MDx,?_⟩
  refine(iP (pl:Nat) ((i+1:Nat):Int)).eq rfl ?_
  refine⟨by(repeat' first | exact trivial | exact rfl | exact⟨_,_,EG hA,rfl,rfl⟩ | exact⟨_,EG hA',rfl⟩ | exact⟨_,AO,rfl⟩ | refine And.intro ?_ ?_),?_⟩
  refine hRo.eq rfl ?_
  refine⟨by(repeat' first | exact trivial | exact rfl | exact⟨_,_,EG hA,rfl,rfl⟩ | exact⟨_,EG hA',rfl⟩ | exact⟨_,AO,rfl⟩ | refine And.intro ?_ ?_),?_⟩
  refine⟨by(repeat' first | exact trivial | exact rfl | exact⟨_,_,EG hA,rfl,rfl⟩ | exact⟨_,EG hA',rfl⟩ | exact⟨_,AO,rfl⟩ | refine And.intro ?_ ?_),?_⟩
  refine⟨MO,[ints row],rfl,?_⟩
  refine⟨by show 0+(i+1)<=((List.replicate (i+1) row).map ints).length;omega,(List.replicate (i+1) row).map ints,AB hrl,by show(i+1+1) * 24<=140737488355328;omega,(List.replicate (i+1) row++[row]).map ints,MHf,?_⟩
  refine⟨by(repeat' first | exact trivial | exact rfl | exact⟨_,_,EG hA,rfl,rfl⟩ | exact⟨_,EG hA',rfl⟩ | exact⟨_,AO,rfl⟩ | refine And.intro ?_ ?_),?_⟩
  refine⟨MDh,?_⟩
  refine⟨_,EG hA',by show 0+2+1<=3;omega,?_⟩
  refine⟨((i+1+1:Nat):Int),MAz,?_⟩
  have Ob:List.replicate (i+1) row++[row]=List.replicate (i+1+1) row:=by rw [List.replicate_succ' (n:=i+1)]
  by_cases h1:GJ=i+1+1
  ·subst h1
   refine⟨.fin,trivial,AA [9] [] [] rfl MDJ ?_ rfl,by show i+1+1 - (i+1+1)<i+1+1 - (i+1);omega⟩
   refine⟨MCV,MAv,⟨_,rfl,rfl,rfl,?_⟩,
   ⟨_,rfl,rfl,rfl,_,rfl,_,_,rfl,rfl,_,_,rfl,rfl,rfl⟩,⟨_,rfl,rfl,rfl,_,rfl,_,_,rfl,rfl,_,_,rfl,A9 _ _,rfl⟩,⟨_,rfl,rfl,rfl,_,rfl,_,_,rfl,A9 _ _,rfl⟩,⟨_,rfl,rfl,rfl,_,rfl,_,_,rfl,rfl,_,_,rfl,rfl,_,_,rfl,rfl,_,_,rfl,rfl,rfl⟩,trivial⟩
   refine aHo hA (i64 xc) (EZ xp) (u:=.sl 7 1 0 (i+1)) (v:=.sl 9 1 0 (i+1+1)) (rs:=F5 (List.replicate (i+1+1) row)) ?_
   rw [<- Ob]
   exact⟨_,rfl,by show 0+(i+1+1)<=((List.replicate (i+1) row++[row]).map ints).length;rw [Ob,qB,kz];omega,AB (by rw [Ob,qB,kz])⟩
  ·refine⟨.live (i+1),by show i+1+1<GJ;omega,AA [] [(7,9)] [] rfl MDJ ?_ rfl,by show GJ - (i+1+1)<GJ - (i+1);omega⟩
   refine⟨⟨_,rfl,rfl,rfl,?_⟩,MCV,MAv,⟨_,rfl,rfl,rfl,_,rfl,?_⟩,
   ⟨_,rfl,rfl,rfl,_,rfl,_,_,rfl,rfl,_,_,rfl,rfl,rfl⟩,⟨_,rfl,rfl,rfl,_,rfl,_,_,rfl,rfl,_,_,rfl,A9 _ _,rfl⟩,⟨_,rfl,rfl,rfl,_,rfl,_,_,rfl,A9 _ _,rfl⟩,⟨_,rfl,rfl,rfl,_,rfl,_,_,rfl,rfl,_,_,rfl,rfl,_,_,rfl,rfl,_,_,rfl,rfl,rfl⟩,trivial⟩
   ·show(List.replicate (i+1) row++[row]).map ints=(List.replicate (i+1+1) row).map ints
    rw [Ob]
   ·refine aEy hA (i64 xc) (EZ xp) (u:=.sl 7 1 0 (i+1)) (v:=.sl 9 1 0 (i+1+1)) (v':=.sl 7 1 0 (i+1+1)) ?_
    exact rfl
 | fin=>
  refine And.intro (fun h=>absurd (show(GJ:Int)<(GJ:Nat) from h) ME) (fun _=>?_)
  exact hK
end Go.Proofs.YtkegmchjobphdaaGreatDoor
