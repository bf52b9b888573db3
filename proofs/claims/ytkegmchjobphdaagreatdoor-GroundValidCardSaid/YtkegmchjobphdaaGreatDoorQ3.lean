/- Part 3 of the proof: Yi Yj Yx Yk Yl Ylx Ym Yn Yo Yp Yq Yr -/
import Derived.Lib.UnsafeStr
import Derived.Lib.ConvBytes
import Derived.OrdersIn
import Derived.RecoverIn
import Derived.Test.YtkegmchjobphdaaGreatDoorQ2
namespace Go.Proofs.YtkegmchjobphdaaGreatDoor.Y
open Go
section
variable {C:Cx} {Γ:Gm} {H:Hp} {w:World}
theorem JD {α:Type} (n:Nat) (z:List α):(Qg n z).length=n * z.length:=by
 induction n with
 | zero=>simp [Qg]
 | succ n ih=>grind [Qg]
theorem aJt {α:Type} (n:Nat) (z:List α) (i:Nat) (h:i<n * z.length):(Qg n z)[i]?=z[i % z.length]?:=by
 induction n generalizing i with
 | zero=>simp at h
 | succ n ih=>
  simp only [Qg]
  by_cases hi:i<z.length
  ·rw [xN hi,Nat.mod_eq_of_lt hi]
  ·rw [xA ME,ih _ MHl]
   congr 1
   rw [Nat.mod_eq_sub_mod (a:=i) ME]
theorem VG (n:Nat) (z:Array Value):((Array.range (n * z.size)).map (z[· % z.size]!)).toList=Qg n z.toList:=by
 apply kU
 grind [JD,aJt]
theorem mU {z:List AV} {z':List Value} (h:CX Γ z z') (n:Nat):CX Γ (Qg n z) (Qg n z'):=by
 induction n with
 | zero=>rfl
 | succ n ih=>exact GY h ih
theorem aJu {z:List AV} (h:z.all pl=true) (n:Nat):(Qg n z).all pl=true:=by
 induction n with
 | zero=>rfl
 | succ n ih=>simp [Qg,h,ih]
theorem uS {α:Type} (z:List α):∀ (l c:Nat),l<=c->∃ r,Qg c z=Qg l z++r/\r.length=(c - l) * z.length
 | 0,c,_=>⟨Qg c z,by simp [Qg],by simp [JD]⟩
 | l+1,0,h=>by omega
 | l+1,c+1,h=>by
  obtain⟨r,h1,h2⟩:=uS z l c (by omega)
  exact⟨r,by simp [Qg,h1],MAe⟩
theorem Pq {α:Type} {s:Nat}:∀ (n:Nat) (l:List α),l.length=n * s->(chunks s n l).flatten=l/\∀ c∈chunks s n l,c.length=s
 | 0,l,h=>by grind [chunks]
 | n+1,l,h=>by
  obtain⟨h1,h2⟩:=Pq (s:=s) n (l.drop s) (by grind)
  simp only [chunks,xI,h1,kE,zL]
  grind
theorem U7 {s len:Nat} {cs:List AV} {c:Cn} (h:aGp s len cs=some c) (hl:cs.length=len * s):BV c=true/\flat c=cs/\∀ tc,DN s tc c:=by
 unfold aGp at h
 split at h
 ·rename_i ps hps
  have e:=KG hps
  split at h
  ·rename_i hb
   injection h with h
   subst h
   exact⟨rfl,e.symm,fun _=>qI hb⟩
  ·injection h with h
   subst h
   obtain⟨h1,h2⟩:=Pq (s:=s) len ps MAe
   exact⟨rfl,MLC,fun _=>h2⟩
 ·split at h
  ·rename_i hb
   injection h with h
   subst h
   exact⟨rfl,rfl,fun _=>qI hb⟩
  ·injection h with h
   subst h
   obtain⟨h1,h2⟩:=Pq (s:=s) len cs hl
   exact⟨rfl,MDL,fun _=>h2⟩
theorem Rx {ev:Operand->AV} {place:Nat->Option (Nat × Nat)}:∀ {parts:List (Nat × Operand)} {cs r:List AV},bld ev place cs parts=some r->r.length=cs.length
 | [],cs,r,h=>by grind [bld]
 | (i,x)::rest,cs,r,h=>by
  simp only [bld] at h
  split at h
  ·cases h
  ·split at h
   ·rw [Rx h,Ep]
   ·cases h
theorem NU (h:R C Γ H w) {t:TypeId} {len:Nat} {parts:Array (Nat × Operand)} {ev:Operand->AV} {Nz:Operand->Value} (Fa:∀ x,VR Γ (ev x) (Nz x)) {K:KH} (hv:Pm C t len parts.toList ev H K) :
  ∃ v' w',(Instr.buildSlice t len (parts.map fun p=>(p.1,Nz p.2))).run C.P w=.ok v' w'/\NV C Γ H w K v' w':=by
 unfold Pm at hv
 split at hv <;> try exact hv.elim
 rename_i e hu
 split at hv <;> try exact hv.elim
 rename_i s z hs hz
 split at hv <;> try exact hv.elim
 rename_i hc
 simp only [qC] at hc
 obtain⟨⟨⟨h1,h2⟩,h3⟩,h4⟩:=hc
 have h1:=qp h1
 have h2:=qI h2
 have h3:0<s:=by simpa using h3
 split at hv <;> try exact hv.elim
 rename_i cs hb
 split at hv <;> try exact hv.elim
 rename_i c II hcn
 obtain⟨z',hzr,hvz⟩:=Og (Γ:=Γ) hz w
 have hzs:z'.cells.size=s:=by rw [<- vL,BH hvz,h2]
 have hmk:CX Γ (Qg len (BI (.p z))) ((Array.range (len * s)).map (z'.cells[· % z'.cells.size]!)).toList:=by
  have:=VG len z'.cells
  rw [hzs] at this
  rw [hzs,this]
  exact mU hvz len
 obtain⟨r',h5,h6⟩:=Qj (Γ:=Γ) Fa parts.toList (qi.1 h4) hmk hb
 have IL:cs.length=len * s:=by rw [Rx hb,JD,h2]
 obtain⟨c1,c2,c3⟩:=U7 hcn IL
 have hrl:=BH h6
 have hL:=Oe (rest:=[]) (tc:=len) (c:=c) (us:=r'.toList) h c1 hs h3 (by rw [c2];exact h6) (mV h6 II) MAe (c3 _)
 refine⟨.slice (some ⟨w.heap.size,0,none⟩) len len,w.alloc (.cells r' e),?_,_,_,_,hv,NY ⟨w.heap.size,s,len,false⟩ H.next len rfl (qN _),by simpa using hL⟩
 have aMw:¬ (len * s > 2 ^ 24):=by omega
 by_cases h0:len * s=0
 ·have h5':Instr.fill (fun i=>some (i * s,s)) #[] (parts.map fun p=>(p.1,Nz p.2)).toList=some r':=by
   rw [h0] at h5
   simpa [Array.range_zero'] using h5
  simp only [xx] at h5'
  simp [Instr.buildSlice,run_underlying hu,CO hs,h0,Array.range_zero',h5',ZA]
 ·have h5':Instr.fill (fun i=>some (i * s,s)) ((Array.range (len * s)).map (z'.cells[· % z'.cells.size]!)) (parts.map fun p=>(p.1,Nz p.2)).toList=some r':=by simpa using h5
  simp only [xx] at h5'
  simp [Instr.buildSlice,run_underlying hu,CO hs,aMw,hzr,h5',ZA]
  omega
theorem aCX {t:TypeId} {s b:Nat} {z:PV} (hs:szOf C.P t=some s) (hz:zeroOf C.P t=some z) (hb:aA9 C t=some b):∃ i z',C.P.info? t=some i/\i.size=s/\i.zero=some z'/\Ir z'=some z/\i.bytes=b:=by
 grind [JE,VA,aA9]
theorem fO {z:PV} {z':Value} (h:Ir z'=some z):CX Γ (BI (.p z)) z'.cells.toList:=by
 rw [H8];exact Na (by grind [VR,Yz]) rfl
theorem wrap_i64 {n:Int} (h0:-9223372036854775808<=n) (h1:n<=9223372036854775807):n=IntKind.i64.wrap n:=by
 rw [IntKind.wrap_i64]
 omega
theorem aJv {z:PV} (n:Nat):Qg n [AV.p z]=(List.replicate n z).map .p:=by
 induction n with
 | zero=>rfl
 | succ n ih=>grind [Qg]
theorem aGq {zs:List PV} (n:Nat):Qg n (zs.map AV.p)=((List.replicate n zs).flatten).map .p:=by
 induction n with
 | zero=>rfl
 | succ n ih=>grind [Qg]
theorem RQ (z:PV):BI (.p z)=(mW z).map .p:=by cases z <;> rfl
theorem Wv (h:R C Γ H w) {t:TypeId} {l c:AV} {l' c':Value} (hl:VR Γ l l') (hc:VR Γ c c') {K:KH} (hv:uT C t l c H K) :
  ∃ v' w',(Instr.makeSlice t l' c').run C.P w=.ok v' w'/\NV C Γ H w K v' w':=by
 unfold uT at hv
 split at hv <;> try exact hv.elim
 rename_i e k l k' c hu
 simp only [VR,VP] at hl hc
 subst hl;subst hc
 split at hv <;> try exact hv.elim
 rename_i s z b hs hz hb
 split at hv <;> try exact hv.elim
 rename_i VE
 simp only [qC] at VE
 obtain⟨⟨h1,h2⟩,h3⟩:=VE
 have h1:=qI h1
 have h2:0<s:=by simpa using h2
 obtain⟨⟨g0,g1,g2,g3⟩,hK⟩:=hv
 obtain⟨i,z',i1,i2,i3,iz,i4⟩:=aCX hs hz hb
 have hvz:CX Γ (BI (.p z)) z'.cells.toList:=fO iz
 have hzs:z'.cells.size=s:=by rw [<- vL,BH hvz,h1]
 obtain⟨r,hr1,hr2⟩:=uS z'.cells.toList l.toNat c.toNat ME
 have hr:=run_make (P:=C.P) w t e i z' hu i1 i3 k k' l c g0 g1 MHl ME
 rw [i2] at hr
 have DY:((Array.range (c.toNat * s)).map (z'.cells[· % z'.cells.size]!))=⟨Qg l.toNat z'.cells.toList++r⟩:=by
  apply vK
  have:=VG c.toNat z'.cells
  rw [hzs] at this
  rw [hzs,this,hr1]
 have hlen:(Qg l.toNat z'.cells.toList++r).length=c.toNat * s:=by rw [<- hr1,JD];simp [hzs]
 have key:∀ (cn:Cn),BV cn=true->flat cn=Qg l.toNat (BI (.p z))->DN s c.toNat cn->K (.sl H.next s 0 l.toNat) (H.push ⟨e,false,cn⟩)->∃ v' w',(Instr.makeSlice t (.int k l) (.int k' c)).run C.P w=.ok v' w'/\NV C Γ H w K v' w':=by
  intro cn c1 c2 c3 hK
  have hL:=Oe (rest:=r) (tc:=c.toNat) (c:=cn) (us:=Qg l.toNat z'.cells.toList) h c1 hs h2 (by grind [mU]) (mV (mU hvz _) (aJu h3 _)) hlen c3
  refine⟨_,_,hr,_,_,_,hK,NY (Γ:=Γ) ⟨w.heap.size,s,c.toNat,false⟩ H.next l.toNat rfl MHl,?_⟩
  rw [show madeCells z'.cells (c.toNat * s)=⟨Qg l.toNat z'.cells.toList++r⟩ from DY]
  exact hL
 split at hK
 ·rename_i Vw
  simp only [qC] at Vw
  have this:=Qk Vw.2
  have Vw:=qI Vw.1
  subst Vw
  refine key (.pu (List.replicate l.toNat z)) rfl ?_ rfl hK
  rw [this,aJv];rfl
 ·refine key (.GN (List.replicate l.toNat (mW z))) rfl ?_ ?_ hK
  ·rw [RQ,aGq];rfl
  ·intro cs JM
   grind [RQ]
theorem R.mark:∀ {fs:List Nat} {Γ:Gm} {H:Hp},R C Γ H w->CV H.l fs=true->∃ BU,BU.nm=Γ.nm/\Au C H.next Γ H w BU (H.TA fs) w
 | [],Γ,H,h,_=>⟨Γ,rfl,Au.refl h _ (qN _)⟩
 | n::r,Γ,H,h,hm=>by
  simp only [CV] at hm
  split at hm
  ·rename_i o ho
   simp only [qC] at hm
   obtain⟨Cq,e1,JN⟩:=h.freeze ho hm.1
   obtain⟨YT,e2,Rp⟩:=R.mark (H:={ H with l:=DJ H.l n { o with fr:=true } }) JN.1 hm.2
   refine⟨YT,e2.trans e1,?_⟩
   have:=JN.trans Rp
   simpa only [Hp.TA,marks,ho] using this
  ·cases hm
theorem mJ {fz:FW}:Ey fz [] []:=by simp only [Ey]
theorem FJ {f:AV->PV->Prop} (hf:∀ v x v',f v x->VR Γ v v'->VP Γ.fz x v'):∀ {vs:List AV} {ys:List PV} {vs':List Value},EJ f vs ys->CX Γ vs vs'->Ey Γ.fz ys vs'
 | [],ys,vs',h,hv=>by grind [EJ,CX,mJ]
 | v::vs,ys,vs',h,hv=>by
  simp only [EJ] at h
  simp only [CX] at hv
  obtain⟨y,ys',rfl,h1,h2⟩:=h
  obtain⟨u,us,rfl,h3,h4⟩:=hv
  simp only [Ey]
  exact⟨u,us,rfl,hf v y u h1 h3,FJ hf h2 h4⟩
theorem Gb {α:Type} {s:Nat} {xss:List (List α)} (h:∀ cs∈xss,cs.length=s):xss.flatten.length=xss.length * s:=by
 exact MLK
theorem mX {us rest vs:List Value} {k n:Nat} (hp:∀ u∈us,CZ u=true) (hv:vs=(us.drop k).take n) (hk:k<=us.length):Seg (us++rest) k vs:=by
 subst hv
 have:Seg (us++rest) 0 us:=⟨[],rest,rfl,rfl,hp⟩
 simpa using this.sub k n hk
theorem uU {fz:FW} {y x:PV} {v:Value} (h:aCY y x) (hv:VP fz y v):VP fz x v:=by
 by_cases hy:y=.Ad
 ·subst hy
  simp only [aCY] at h
  simp only [VP] at hv
  subst hv
  rcases h with rfl | rfl | ⟨s,rfl⟩
  ·simp only [VP]
  ·exact MK3
  ·exact MK3
 ·have:x=y:=by cases y <;> simp only [aCY] at h <;> first | exact h | exact absurd rfl hy
  subst this
  exact hv
theorem Te {fz:FW}:∀ {ys xs:List PV} {vs:List Value},Ps ys xs->Ey fz ys vs->Ey fz xs vs
 | [],xs,vs,h,hv=>by grind [Ps]
 | y::ys,xs,vs,h,hv=>by
  simp only [Ps] at h
  obtain⟨z,zs,rfl,h1,h2⟩:=h
  simp only [Ey] at hv ⊢
  obtain⟨u,us,rfl,h3,h4⟩:=hv
  exact⟨u,us,rfl,uU h1 h3,Te h2 h4⟩
theorem Pe:∀ ys:List PV,Ps ys ys
 | []=>rfl
 | y::ys=>⟨y,ys,rfl,by cases y <;> first | exact .inl rfl | rfl,Pe ys⟩
theorem uV {f:AV->PV->Prop}:∀ {vs:List AV} {ys:List PV},EJ f vs ys->ys.length=vs.length
 | [],ys,h=>by simp only [EJ] at h;subst h;rfl
 | v::vs,ys,h=>by
  simp only [EJ] at h
  obtain⟨y,ys',rfl,_,h2⟩:=h
  simp [uV h2]
theorem uW {f:AV->PV->Prop}:∀ {a b:List AV} {x y:List PV},EJ f a x->EJ f b y->EJ f (a++b) (x++y)
 | [],b,x,y,h,k=>by grind [EJ]
 | v::a,b,x,y,h,k=>by
  simp only [EJ] at h
  obtain⟨z,zs,rfl,h1,h2⟩:=h
  simp only [kD,EJ]
  exact⟨z,zs++y,rfl,h1,uW h2 k⟩
theorem OV {f:AV->PV->Prop}:∀ {Ui:List (List AV)} {OU:List (List PV)},J4 f Ui OU->EJ f Ui.flatten OU.flatten
 | [],OU,h=>by simp only [J4] at h;subst h;rfl
 | v::Ui,OU,h=>by
  simp only [J4] at h
  obtain⟨y,ys,rfl,h1,h2⟩:=h
  simp only [xI]
  exact uW h1 (OV h2)
theorem Qb {f:AV->PV->Prop}:∀ {Ui:List (List AV)} {OU:List (List PV)},J4 f Ui OU->OU.length=Ui.length/\∀ {s:Nat},(∀ cs∈Ui,cs.length=s)->∀ ys∈OU,ys.length=s
 | [],OU,h=>by simp only [J4] at h;simp_all
 | v::Ui,OU,h=>by
  simp only [J4] at h
  obtain⟨y,ys,rfl,h1,h2⟩:=h
  obtain⟨i1,i2⟩:=Qb h2
  refine⟨by simp [i1],fun hs z hz=>?_⟩
  rcases qw.1 hz with rfl | hz
  ·rw [uV h1];simp_all
  simp_all
theorem Dj (h:R C Γ H w):∀ (d:Nat) (v:AV) (x:PV) (v':Value),GH H.l d v x->VR Γ v v'->VP Γ.fz x v'
 | 0,v,x,v',hr,hv=>by
  cases v <;> simp only [GH] at hr
  grind [VR]
 | d+1,v,x,v',hr,hv=>by
  have ihL:∀ {vs:List AV} {ys:List PV} {vs':List Value},EJ (GH H.l d) vs ys->CX Γ vs vs'->Ey Γ.fz ys vs':=fun a b=>FJ (Dj h d) a b
  cases v with
  | p y=>
   simp only [VR] at hv
   by_cases hy:y=.Ad
   ·subst hy
    simp only [GH] at hr
    simp only [VP] at hv
    subst hv
    rcases hr with rfl | rfl | ⟨s,rfl⟩
    ·simp only [VP]
    ·exact MK3
    ·exact MK3
   ·have:x=y∨∃ r zs,y=.agg r/\x=.agg zs/\Ps r zs:=by
     cases y with
     | Ad=>trivial
     | agg cs=>
      cases cs with
      | nil=>exact .inl hr
      | cons a r=>
       cases a with
       | Ad=>obtain⟨zs,h1,h2⟩:=hr;simp_all
       | _=>exact .inl hr
     | _=>exact .inl hr
    rcases this with rfl | ⟨r,zs,rfl,rfl,h2⟩
    ·exact hv
    ·simp only [VP] at hv ⊢
     obtain⟨Dt,rfl,h3⟩:=hv
     exact⟨Dt,rfl,Te h2 h3⟩
  | sl n s off len=>
   simp only [GH] at hr
   simp only [VR] at hv
   obtain⟨q,hq,dE,Ta⟩:=hv
   split at hr <;> try exact hr.elim
   rename_i o ho
   split at hr <;> try exact hr.elim
   rename_i Ea
   split at hr <;> try exact hr.elim
   ·rename_i xs hc
    obtain⟨ys,rfl,hle,fM⟩:=hr
    have uX:ys.length=len:=by rw [fM];simp;omega
    simp only [VP]
    rcases Ta with ⟨BF,rfl,rfl,rfl⟩ | ⟨BF,htc,o',rfl,Yu⟩
    ·simp_all
    ·obtain⟨us,rest,z,h1,h2,h3,SK,h4,h5,h6,h7,h8⟩:=cellsOf h ho MCO hq BF
     rw [hc] at h5 h7
     simp only [DN] at h7
     simp only [flat] at h5
     rcases kS len with hz | hz
     ·simp_all
     ·have Ws:o'=off:=by
       rcases Yu with e | e
       ·rw [e,h7];simp
       ·omega
      subst Ws
      have sJ:=BH h5
      rw [qB] at sJ
      refine .inr ⟨q.blk,o',_,us++rest,(us.drop o').take len,by rw [uX],by omega,h8 Ea,?_,mX h6 rfl ME⟩
      rw [fM]
      exact HY _ (Ia _ (CJ.1 h5))
   ·rename_i xss hc
    obtain⟨ys,rfl,hle,fM⟩:=hr
    have uX:ys.length=len:=by rw [fM];simp;omega
    simp only [VP]
    rcases Ta with ⟨BF,rfl,rfl,rfl⟩ | ⟨BF,htc,o',rfl,Yu⟩
    ·simp_all
    ·obtain⟨us,rest,z,h1,h2,h3,SK,h4,h5,h6,h7,h8⟩:=cellsOf h ho MCO hq BF
     rw [hc] at h5 h7
     simp only [DN] at h7
     simp only [flat] at h5
     rcases kS len with hz | hz
     ·simp_all
     ·have Ws:o'=off * q.s:=by
       rcases Yu with e | e
       ·exact e
       ·omega
      subst Ws
      have sJ:=BH h5
      rw [qB,Gb h7] at sJ
      have hmul:off * q.s<=xss.length * q.s:=kR _ ME
      refine MGT ?_
      subst dE
      refine FU.2 ⟨?_,fun cs JM=>?_⟩
      ·rw [fM,Gc h7 _ _ ME]
       exact HY _ (Ia _ (CJ.1 h5))
      grind
   ·rename_i vs hc
    obtain⟨Y9,ys,hg,rfl,Js⟩:=hr
    obtain⟨g1,g2,g3⟩:=NZ hg
    simp only [VP]
    rcases Ta with ⟨BF,rfl,rfl,rfl⟩ | ⟨BF,htc,o',rfl,Yu⟩
    ·exact MLL
    ·obtain⟨us,rest,z,h1,h2,h3,SK,h4,h5,h6,h7,h8⟩:=cellsOf h ho MCO hq BF
     rw [hc] at h5 h7
     simp only [DN] at h7
     simp only [flat] at h5
     rcases kS len with hz | hz
     ·subst hz
      exact MLL
     ·have Ws:o'=off:=by
       rcases Yu with e | e
       ·rw [e,h7];simp
       ·omega
      subst Ws
      have sJ:=BH h5
      have hv0:CX Γ Y9 ((us.drop o').take len):=by rw [g1];exact IZ _ (Ji _ h5)
      have hy:=ihL Js hv0
      have hyl:ys.length=len:=by rw [<- Cu hy,BH hv0,g2]
      exact .inr ⟨q.blk,o',_,us++rest,(us.drop o').take len,by rw [hyl],by omega,h8 Ea,hy,mX h6 rfl ME⟩
   ·rename_i Ui hc
    obtain⟨ys,rfl,hle,Js⟩:=hr
    obtain⟨hyl,hyf⟩:=Qb Js
    have uX:ys.length=len:=by rw [hyl];simp;omega
    simp only [VP]
    rcases Ta with ⟨BF,rfl,rfl,rfl⟩ | ⟨BF,htc,o',rfl,Yu⟩
    ·simp_all
    ·obtain⟨us,rest,z,h1,h2,h3,SK,h4,h5,h6,h7,h8⟩:=cellsOf h ho MCO hq BF
     rw [hc] at h5 h7
     simp only [DN] at h7
     simp only [flat] at h5
     rcases kS len with hz | hz
     ·simp_all
     ·have Ws:o'=off * q.s:=by
       rcases Yu with e | e
       ·exact e
       ·omega
      subst Ws
      have sJ:=BH h5
      rw [Gb h7] at sJ
      have hmul:off * q.s<=Ui.length * q.s:=kR _ ME
      refine MGT ?_
      subst dE
      have hvv:CX Γ (((Ui.drop off).take len).flatten) ((us.drop (off * q.s)).take (len * q.s)):=by
       rw [Gc h7 _ _ ME]
       exact IZ _ (Ji _ h5)
      exact FU.2 ⟨ihL (OV Js) hvv,hyf fun cs JM=>h7 cs (vC (kQ JM))⟩
  | ptr n i f=>
   simp only [GH] at hr
   simp only [VR] at hv
   obtain⟨q,hq,BF,rfl⟩:=hv
   split at hr <;> try exact hr.elim
   rename_i o ho hb
   simp only [qC] at hb
   have hi:=qI hb.1
   have hf:=qI hb.2
   subst hi;subst hf
   split at hr <;> try exact hr.elim
   rename_i Ea
   split at hr <;> try exact hr.elim
   rename_i cs hc
   obtain⟨ys,rfl,Js⟩:=hr
   obtain⟨us,rest,z,h1,h2,h3,SK,h4,h5,h6,h7,h8⟩:=cellsOf h ho MCO hq BF
   rw [hc] at h5
   simp only [VP]
   exact⟨q.blk,0,us++rest,us,by simp,h8 Ea,ihL Js h5,[],rest,rfl,rfl,h6⟩
  | fn f a b=>
   simp only [GH] at hr
   simp only [VR] at hv
   obtain⟨DF,a',b',rfl,ha,hb⟩:=hr
   obtain⟨f',bf,Dt,rfl,hf,h1,h2⟩:=hv
   rw [tq DF] at hf
   subst hf
   simp only [VP]
   grind
  | iface t y=>
   simp only [GH] at hr
   simp only [VR] at hv
   obtain⟨z,rfl,hz⟩:=hr
   obtain⟨u,rfl,hu⟩:=hv
   simp only [VP]
   exact⟨u,rfl,Dj h d _ _ _ hz hu⟩
  | agg cs=>
   simp only [GH] at hr
   simp only [VR] at hv
   obtain⟨ys,rfl,fM⟩:=hr
   obtain⟨Dt,rfl,JM⟩:=hv
   simp only [VP]
   grind
  | _=>trivial
end
end Go.Proofs.YtkegmchjobphdaaGreatDoor.Y
namespace Go.Proofs.YtkegmchjobphdaaGreatDoor.Y
open Go
section
variable {C:Cx} {Γ:Gm} {H:Hp} {w:World}
def GJ:Cn->Nat
 | .pu xs=>xs.length
 | .GN xss=>xss.length
 | .mx xs=>xs.length
 | .Gw xss=>xss.length
 | _=>0
structure LU (s:Nat) (c:Cn):Prop where
 cells:BV c=true
 sized:∀ tc,DN s tc c
 len:(flat c).length=GJ c * s
 aQ0:GJ c=0->NM c
theorem Ki (xs:List PV):LU 1 (.pu xs):=MIi
theorem Y6 (xs:List AV):LU 1 (.mx xs):=MIi
theorem Qh {s:Nat} {xss:List (List AV)} (h:∀ cs∈xss,cs.length=s):LU s (.Gw xss):=
 MIU
theorem KF {s:Nat} {xss:List (List PV)} (h:∀ cs∈xss,cs.length=s):LU s (.GN xss):=
 MIU
theorem LV {c:Cn} {s tc off len:Nat} (hs:DN s tc c) (hb:∀ cs,c ≠ .bx cs) {K:Cn->Prop} (hk:O1 c off len K) :
  ∃ c',K c'/\LU s c'/\GJ c'=len/\flat c'=((flat c).drop (off * s)).take (len * s)/\off+len<=GJ c:=by
 cases c with
 | pu xs=>
  simp only [DN] at hs
  subst hs
  obtain⟨hle,ys,fM,hK⟩:=hk
  exact⟨_,hK,Ki _,by grind [GJ],by rw [fM];simp [flat,List.map_take,List.map_drop],hle⟩
 | GN xss=>
  simp only [DN] at hs
  obtain⟨hle,ys,fM,hK⟩:=hk
  refine⟨_,hK,KF (fun cs JM=>?_),by grind [GJ],?_,hle⟩
  ·grind
  ·rw [fM]
   simp only [flat]
   rw [Gc hs _ _ ME,jJ,zM]
 | mx xs=>
  simp only [DN] at hs
  subst hs
  simp only [O1] at hk
  split at hk <;> try exact hk.elim
  rename_i ys hg
  obtain⟨g1,g2,g3⟩:=NZ hg
  exact⟨_,hk,Y6 _,g2,MLC,(mQ hg).2.2⟩
 | Gw xss=>
  simp only [DN] at hs
  obtain⟨hle,ys,fM,hK⟩:=hk
  grind [Qh,GJ,flat,Gc]
 | bx cs=>trivial
 | lp=>exact hs.elim
 | df=>exact hs.elim
 | ms=>exact hs.elim
 | mk=>exact hs.elim
 | it=>exact hs.elim
theorem VD (h:R C Γ H w) {s:Nat} (h0:0<s) {x:AV} {x':Value} (hx:VR Γ x x') {K:Nat->Cn->Hp->Prop} (hv:aA8 s x H K) :
  ∃ m c H1 Cq us,K m c H1/\Cq.nm=Γ.nm/\Au C H.next Γ H w Cq H1 w/\(∀ d,(Builtin.lenOf x').run C.P { w with drawn:=d }=.ok m { w with drawn:=d })/\(∀ d,(Builtin.firstCells s m x').run C.P { w with drawn:=d }=.ok ⟨us⟩ { w with drawn:=d }) /\
   CX Cq (flat c) us/\(∀ v∈us,CZ v=true)/\LU s c/\GJ c=m:=by
 have hrefl:=Au.refl h H.next (qN _)
 -- a real slice aR7 cells are known
 have sli:∀ {b o n c:Nat} {us:List Value},us.length=n * s->(∀ (j:Nat) (u:Value),us[j]?=some u->w.cell? ⟨b,o+j,none⟩=some u) ->
   (∀ d,(Builtin.lenOf (.slice (some ⟨b,o,none⟩) n c)).run C.P { w with drawn:=d }=.ok n { w with drawn:=d })/\(∀ d,(Builtin.firstCells s n (.slice (some ⟨b,o,none⟩) n c)).run C.P { w with drawn:=d }=.ok ⟨us⟩ { w with drawn:=d }):=by
  intro b o n c us hl hc
  refine⟨fun _=>rfl,fun d=>?_⟩
  have:=Qi (P:=C.P) (w:={ w with drawn:=d }) b o us hc
  rw [hl] at this
  exact this
 have emp:∀ {a:Option Addr} {c:Nat},(∀ d,(Builtin.lenOf (.slice a 0 c)).run C.P { w with drawn:=d }=.ok 0 { w with drawn:=d })/\(∀ d,(Builtin.firstCells s 0 (.slice a 0 c)).run C.P { w with drawn:=d }=.ok ⟨[]⟩ { w with drawn:=d }):=by
  intro a c
  refine⟨fun _=>rfl,fun d=>?_⟩
  cases a with
  | none=>rfl
  | some a=>simp only [Builtin.firstCells,vQ];rfl
 have fzc:∀ {b o:Nat} {arr us:List Value},Γ.fz b=some arr->Seg arr o us->∀ (j:Nat) (u:Value),us[j]?=some u->w.cell? ⟨b,o+j,none⟩=some u:=by
  intro b o arr us Qd aMv j u hj
  obtain⟨t,z,hb⟩:=h.Io b arr Qd
  simp only [World.cell?,hb,jM,qV,jh,jA]
  exact aMv.get hj
 unfold aA8 at hv
 split at hv
 ·simp only [VR,VP] at hx
  subst hx
  split at hv
  ·rename_i hs
   have hs:=qI hs
   subst hs
   exact MHU
  ·exact MHJ
 ·rename_i xs
  split at hv <;> try exact hv.elim
  rename_i hs
  have hs:=qI hs
  subst hs
  simp only [VR,VP] at hx
  rcases hx with ⟨rfl,a,c,rfl⟩ | ⟨b,o,c,arr,us,rfl,hc,h1,h2,h3⟩
  ·exact MHU
  ·obtain⟨r1,r2⟩:=sli (b:=b) (o:=o) (n:=xs.length) (c:=c) (us:=us) (by rw [Cu h2];simp) (fzc h1 h3)
   exact⟨_,_,H,Γ,us,hv,rfl,hrefl,r1,r2,CJ.2 h2,h3.plain,Ki _,rfl⟩
 ·rename_i s' xss
  split at hv <;> try exact hv.elim
  rename_i hs
  simp only [qC] at hs
  have hs:=qI hs.1
  subst hs
  simp only [VR,VP] at hx
  rcases hx with ⟨rfl,a,c,rfl⟩ | ⟨b,o,c,arr,us,rfl,hc,h1,h2,h3⟩
  ·exact MHJ
  ·obtain⟨g1,g2⟩:=FU.1 h2
   obtain⟨r1,r2⟩:=sli (b:=b) (o:=o) (n:=xss.length) (c:=c) (us:=us) (by rw [Cu g1,Gb g2]) (fzc h1 h3)
   exact⟨_,_,H,Γ,us,hv,rfl,hrefl,r1,r2,CJ.2 g1,h3.plain,KF g2,rfl⟩
 ·rename_i n s' off len
  split at hv <;> try exact hv.elim
  rename_i o ho hs
  have hs:=qI hs
  subst hs
  simp only [VR] at hx
  obtain⟨q,hq,dE,Ta⟩:=hx
  -- the choice
  have key:∀ c,LU s c->GJ c=len->∀ us,CX Γ (flat c) us->(∀ v∈us,CZ v=true)->(∀ d,(Builtin.lenOf x').run C.P { w with drawn:=d }=.ok len { w with drawn:=d })->(∀ d,(Builtin.firstCells s len x').run C.P { w with drawn:=d }=.ok ⟨us⟩ { w with drawn:=d }) ->
    (match c with
     | .mx vs=>(∃ fs ps,CV H.l fs=true/\EJ (GH (marks H.l fs) 5) vs ps/\K len (.pu ps) (H.TA fs))∨K len (.mx vs) H
     | .Gw Ui=>(∃ fs pss,CV H.l fs=true/\J4 (GH (marks H.l fs) 5) Ui pss/\K len (.GN pss) (H.TA fs))∨K len (.Gw Ui) H
     | c=>K len c H) ->
    ∃ m c H1 Cq us,K m c H1/\Cq.nm=Γ.nm/\Au C H.next Γ H w Cq H1 w/\(∀ d,(Builtin.lenOf x').run C.P { w with drawn:=d }=.ok m { w with drawn:=d })/\(∀ d,(Builtin.firstCells s m x').run C.P { w with drawn:=d }=.ok ⟨us⟩ { w with drawn:=d }) /\
     CX Cq (flat c) us/\(∀ v∈us,CZ v=true)/\LU s c/\GJ c=m:=by
   intro c hE IL us PD II hln hfc hK
   have direct:K len c H->∃ m c H1 Cq us,K m c H1/\Cq.nm=Γ.nm/\Au C H.next Γ H w Cq H1 w/\(∀ d,(Builtin.lenOf x').run C.P { w with drawn:=d }=.ok m { w with drawn:=d })/\(∀ d,(Builtin.firstCells s m x').run C.P { w with drawn:=d }=.ok ⟨us⟩ { w with drawn:=d }) /\
     CX Cq (flat c) us/\(∀ v∈us,CZ v=true)/\LU s c/\GJ c=m:=fun hK=>⟨len,c,H,Γ,us,hK,rfl,hrefl,hln,hfc,PD,II,hE,IL⟩
   cases c with
   | mx vs=>
    rcases hK with ⟨fs,ps,hm,Js,hK⟩ | hK
    ·obtain⟨Cq,e1,hL⟩:=h.mark hm
     have hle:Γ.le Cq:=MIt
     have O0:s=1:=hE.sized 0
     subst O0
     have hp:=FJ (Dj hL.1 5) (show EJ (GH (H.TA fs).l 5) vs ps from Js) (Cw hle _ _ PD)
     refine⟨len, .pu ps,H.TA fs,Cq,us,hK,e1,hL,hln,hfc,CJ.2 hp,II,Ki _,?_⟩
     show ps.length=len
     rw [<- Cu hp,BH PD]
     exact IL
    simp_all
   | Gw Ui=>
    rcases hK with ⟨fs,pss,hm,Js,hK⟩ | hK
    ·obtain⟨Cq,e1,hL⟩:=h.mark hm
     have hle:Γ.le Cq:=MIt
     have O0:∀ cs∈Ui,cs.length=s:=hE.sized 0
     obtain⟨r1,r2⟩:=Qb Js
     have hp:=FJ (Dj hL.1 5) (show EJ (GH (H.TA fs).l 5) Ui.flatten pss.flatten from OV Js) (Cw hle _ _ PD)
     refine⟨len, .GN pss,H.TA fs,Cq,us,hK,e1,hL,hln,hfc,CJ.2 hp,II,KF (r2 O0),?_⟩
     show pss.length=len
     rw [r1]
     exact IL
    simp_all
   | pu xs=>exact direct hK
   | GN xs=>exact direct hK
   | bx cs=>exact direct hK
   | lp=>exact direct hK
   | df=>exact direct hK
   | ms=>exact direct hK
   | mk=>exact direct hK
   | it=>exact direct hK
  rcases Ta with ⟨BF,rfl,rfl,rfl⟩ | ⟨BF,htc,o',rfl,Yu⟩
  ·obtain⟨q',Gp,Em⟩:=h.Dz n o ho
   rw [hq] at Gp
   injection Gp with e
   subst e
   -- an empty object
   have AO:BV o.c=true:=by
    exact MJb
   have Jn:∀ cs,o.c ≠ .bx cs:=by
    intro cs e
    rw [e] at hv
    simp [O1] at hv
   rcases (BA AO).1 Em with ⟨_,he,hsz⟩ | ⟨e,_⟩
   ·rw [dE] at hsz
    obtain⟨c',hK,hE,IL,XW,hle⟩:=LV hsz Jn hv
    have dF:flat c'=[]:=qY MAe
    exact key c' hE IL [] (by rw [dF];rfl) MBV emp.1 emp.2 hK
   simp_all
  ·have AO:BV o.c=true:=by
    exact MJb
   obtain⟨us,rest,z,h1,h2,h3,SK,h4,h5,h6,h7,h8⟩:=cellsOf h ho AO hq BF
   rw [dE] at h7
   have Jn:∀ cs,o.c ≠ .bx cs:=by
    intro cs e
    rw [e] at hv
    simp [O1] at hv
   obtain⟨c',hK,hE,IL,XW,hle⟩:=LV h7 Jn hv
   have hv1:CX Γ (flat c') ((us.drop (off * s)).take (len * s)):=by rw [XW];exact IZ _ (Ji _ h5)
   have hp1:∀ v∈(us.drop (off * s)).take (len * s),CZ v=true:=fun v hv=>h6 v (vC (kQ hv))
   have hl1:((us.drop (off * s)).take (len * s)).length=len * s:=by rw [BH hv1,hE.len,IL]
   rcases kS len with hz | hz
   ·subst hz
    grind
   ·have Ws:o'=off * s:=by
     rcases Yu with e | e
     ·rw [e,dE]
     ·omega
    subst Ws
    obtain⟨r1,r2⟩:=sli (b:=q.blk) (o:=off * s) (n:=len) (c:=q.tc - off) hl1 (fun j u hj=>by
     grind [HZ])
    grind
 ·rename_i str
  simp only [VR,VP] at hx
  subst hx
  split at hv <;> try exact hv.elim
  rename_i hs
  have hs:=qI hs
  subst hs
  have hsz:(⟨⟨str⟩⟩:ByteArray).size=str.length:=rfl
  refine⟨str.length,_,H,Γ,str.map fun b=>.int .u8 (b.toNat:Int),hv,rfl,hrefl,fun _=>rfl,fun d=>?_,?_,?_,Ki _,by simp [GJ]⟩
  ·have he:(⟨⟨str⟩⟩:ByteArray).extract 0 str.length=⟨⟨str⟩⟩:=by rw [RP];simp
   simp only [Builtin.firstCells,Sem.run_pure,he]
   simp_all
  ·refine CJ.2 ?_
   clear hv hsz
   induction str with
   | nil=>rfl
   | cons b r ih=>simp only [kI,Ey];exact⟨_,_,rfl,by rfl,ih⟩
  ·intro v hv
   obtain⟨b,_,rfl⟩:=qz.1 hv
   rfl
 ·exact hv.elim
theorem Pp {t:TypeId} (h:Od C t=true):(∃ e,C.P.underlying t=some (.slice e))∨C.P.underlying t=some .string:=by
 grind [Od]
theorem run_append_fits {t t' ty e:TypeId} {s n c m:Nat} {a:Addr} {x:Value} {nc:List Value} (hu:C.P.underlying t=some (.slice e)) (ht':Od C t'=true) (hs:szOf C.P e=some s)
  (hl:(Builtin.lenOf x).run C.P w=.ok m w) (hf:(Builtin.firstCells s m x).run C.P w=.ok ⟨nc⟩ w) (U9:n+m<=c) {w':World} (LJ:(storeCells (a.add (n * s)) nc).run C.P w=.ok () w') :
  (Builtin.append_ #[t,t'] ty #[.slice (some a) n c,x]).run C.P w=.ok (.slice (some a) (n+m) c) w':=by
 rcases Pp ht' with ⟨e',tT⟩ | tT <;>
  simp [Builtin.append_,run_underlying hu,run_underlying tT,CO hs,hl,U9,hf,LJ]
theorem run_append_nil {t t' ty e:TypeId} {s m:Nat} {x:Value} {nc:List Value} (hu:C.P.underlying t=some (.slice e)) (ht':Od C t'=true) (hs:szOf C.P e=some s)
  (hl:(Builtin.lenOf x).run C.P w=.ok m w) (hf:(Builtin.firstCells s m x).run C.P w=.ok ⟨nc⟩ w) (hm:m=0) :
  (Builtin.append_ #[t,t'] ty #[.slice none 0 0,x]).run C.P w=.ok (.slice none 0 0) w:=by
 subst hm
 rcases Pp ht' with ⟨e',tT⟩ | tT <;>
  simp [Builtin.append_,run_underlying hu,run_underlying tT,CO hs,hl,hf]
theorem run_append_grow {t t' ty e : TypeId} {s b n c m : Nat} {z : PV} {base : Option Addr} {x : Value} {old nc : List Value} (hu : C.P.underlying t = some (.slice e)) (ht' : Od C t' = true)
    (hs : szOf C.P e = some s) (hz : zeroOf C.P e = some z) (hb : aA9 C e = some b) (hb0 : 0 < b)
    (hl : (Builtin.lenOf x).run C.P w = .ok m w) (U9 : ¬ n + m <= c) (V8 : (n + m) * b <= 140737488355328)
    (hold : (Builtin.firstCells s n (.slice base n c)).run C.P { w with drawn := w.drawn + 1 } = .ok ⟨old⟩ { w with drawn := w.drawn + 1 })
    (hf : (Builtin.firstCells s m x).run C.P { w with drawn := w.drawn + 1 } = .ok ⟨nc⟩ { w with drawn := w.drawn + 1 }) :
    ∃ k z', Ir z' = some z /\ (Builtin.append_ #[t, t'] ty #[.slice base n c, x]).run C.P w = .ok (.slice (some ⟨w.heap.size, 0, none⟩) (n + m) (n + m + k))
      (({ w with drawn := w.drawn + 1 } : World).alloc (.cells ((⟨old⟩ : Array Value) ++ ⟨nc⟩ ++ Builtin.zeroCells z'.cells k) e)) := by
  obtain ⟨i, z', i1, i2, i3, iz, i4⟩ := aCX hs hz hb
  have aR8 := growslice_fits (need := n + m) (old := c) (bytes := b) ME V8
  have h63 : n + m <= (n + m) * b := Nat.le_mul_of_pos_right _ hb0
  have aQ1 : ¬ (9223372036854775807 < ((n : Int) + (m : Int))) := by omega
  have aQ2 : ¬ (281474976710656 < Builtin.nextslicecap (n + m) c * i.bytes) := by rw [i4]; omega
  have aOp : (Builtin.firstCells s n (.slice base n c)).run C.P w.drew = .ok ⟨old⟩ w.drew := hold
  have hf' : (Builtin.firstCells s m x).run C.P w.drew = .ok ⟨nc⟩ w.drew := hf
  refine ⟨w.tape w.drawn (.appendCap (n + m) c e) % (2 ^ 63 - (n + m)), z', iz, ?_⟩
  show _ = Result.ok _ (w.drew.alloc _)
  have fin : ∀ (X : Array Value), X = (⟨old⟩ : Array Value) ++ ⟨nc⟩ ++ Builtin.zeroCells z'.cells (w.tape w.drawn (.appendCap (n + m) c e) % (2 ^ 63 - (n + m))) ->
      (Builtin.append_ #[t, t'] ty #[.slice base n c, x]).run C.P w = .ok (.slice (some ⟨w.heap.size, 0, none⟩) (n + m) (n + m + w.tape w.drawn (.appendCap (n + m) c e) % (2 ^ 63 - (n + m)))) (w.drew.alloc (.cells X e)) := by
    intro X hX
    rcases Pp ht' with ⟨e', tT⟩ | tT <;>
      (simp [Builtin.append_, run_underlying hu, run_underlying tT, CO hs, hl, U9, typeInfo, zeroValue, i1, i3, aQ1, aQ2, Question.forced, Question.cut, aOp, hf', newRow, hX]
       congr 2
       apply vK
       simp)
  exact fin _ rfl
theorem RN (z:Array Value) (k:Nat):(Builtin.zeroCells z k).toList=Qg k z.toList:=VG k z
theorem Y7 (h:R C Γ H w) {e:TypeId} {s k m:Nat} {z:PV} {z':Value} {c:Cn} {old nc:List Value} (hs:szOf C.P e=some s) (h0:0<s) (hz:Ir z'=some z) (hzl:(BI (.p z)).length=s)
  (hE:LU s c) (hc:GJ c=m) (hv:CX Γ (flat c) (old++nc)) (hp:∀ v∈old++nc,CZ v=true) :
  Au C H.next Γ H { w with drawn:=w.drawn+1 } (Γ.put H.next ⟨w.heap.size,s,m+k,false⟩) (H.push ⟨e,false,c⟩) (({ w with drawn:=w.drawn+1 }:World).alloc (.cells ((⟨old⟩:Array Value)++⟨nc⟩++Builtin.zeroCells z'.cells k) e)):=by
 have hzs:z'.cells.toList.length=s:=by rw [BH (fO (Γ:=Γ) hz),hzl]
 have DY:((⟨old⟩:Array Value)++⟨nc⟩++Builtin.zeroCells z'.cells k)=⟨(old++nc)++Qg k z'.cells.toList⟩:=by
  apply vK
  rw [xh,xh,RN]
 rw [DY]
 have hlen:=BH hv
 have:=Oe (w:={ w with drawn:=w.drawn+1 }) (rest:=Qg k z'.cells.toList) (tc:=m+k) h.drew hE.cells hs h0 hv hp (by rw [qD,hlen,hE.len,hc,JD,hzs,Nat.add_mul]) (hE.sized _)
 exact this
theorem Y8 {s:Nat} {a b:Cn} (ha:LU s a) (hb:LU s b) {K:Cn->Prop} (hk:uR a b K):∃ c,K c/\LU s c/\flat c=flat a++flat b/\GJ c=GJ a+GJ b:=by
 unfold uR at hk
 split at hk
 ·obtain⟨zs,rfl,hk⟩:=hk
  have:s=1:=ha.sized 0
  grind [Ki,flat,GJ]
 ·obtain⟨zs,rfl,hk⟩:=hk
  have h1:=ha.sized 0
  have h2:=hb.sized 0
  grind [DN,KF,flat,GJ]
 ·have:s=1:=ha.sized 0
  grind [Y6,flat,GJ]
 ·grind [flat,GJ]
 ·have:s=1:=ha.sized 0
  grind [Y6,flat,GJ]
 ·obtain⟨zs,rfl,hk⟩:=hk
  have h1:=ha.sized 0
  have h2:=hb.sized 0
  grind [DN,Qh,flat,GJ]
 ·obtain⟨zs,rfl,hk⟩:=hk
  have h1:=ha.sized 0
  have h2:=hb.sized 0
  simp only [DN] at h1 h2
  exact⟨_,hk,Qh (fun cs JM=>(qa.1 JM).elim (h1 cs) (Ja h2 cs)),by simp [flat,OW],by simp [GJ,Tc]⟩
 ·obtain⟨zs,rfl,hk⟩:=hk
  have h1:=ha.sized 0
  have h2:=hb.sized 0
  simp only [DN] at h1 h2
  exact⟨_,hk,Qh (fun cs JM=>(qa.1 JM).elim (Ja h1 cs) (h2 cs)),by simp [flat,OW],by simp [GJ,Tc]⟩
 ·exact hk.elim
theorem mO (h : R C Γ H w) {t t' ty : TypeId} {x y : AV} {x' y' : Value} (hx : VR Γ x x') (hy : VR Γ y y') (ht' : Od C t' = true) {K : KH} (hv : Td C t x y H K) :
    ∃ v' w', (Builtin.append_ #[t, t'] ty #[x', y']).run C.P w = .ok v' w' /\ NV C Γ H w K v' w' := by
  unfold Td at hv
  split at hv <;> try exact hv.elim
  rename_i e hu
  split at hv <;> try exact hv.elim
  rename_i s z b hs hz hb
  split at hv <;> try exact hv.elim
  rename_i VE
  simp only [qC] at VE
  obtain ⟨⟨⟨g1, g2⟩, g3⟩, g4⟩ := VE
  have g1 := qI g1
  have g2 : 0 < s := MJ6
  have g3 : 0 < b := by simpa using g3
  -- nothing was there
  have aQ3 : ∀ (m : Nat) (c : Cn) (H1 H2 : Hp) (Cq : Gm) (us : List Value), Au C H.next Γ H w Cq H2 w -> H2.next = H1.next -> (∀ d, (Builtin.lenOf y').run C.P { w with drawn := d } = .ok m { w with drawn := d }) -> (∀ d, (Builtin.firstCells s m y').run C.P { w with drawn := d } = .ok ⟨us⟩ { w with drawn := d }) ->
      CX Cq (flat c) us -> (∀ v ∈ us, CZ v = true) -> LU s c -> GJ c = m -> m * b <= 140737488355328 -> K (.sl H1.next s 0 m) (H2.push ⟨e, false, c⟩) -> ∃ v' w', (Builtin.append_ #[t, t'] ty #[.slice none 0 0, y']).run C.P w = .ok v' w' /\ NV C Γ H w K v' w' := by
    intro m c H1 H2 Cq us hL Ch hl hf TM II hE hcm V8 hK
    rw [<- Ch] at hK
    by_cases hm : m = 0
    · subst hm
      have Rp := hL.1.aJp (q := ⟨0, s, 0, true⟩) (o := ⟨e, false, c⟩) rfl hE.cells (hE.aQ0 hcm) (hE.sized _)
      refine ⟨_, _, run_append_nil hu ht' hs (hl w.drawn) (hf w.drawn) rfl, _, _, _, hK, ?_, hL.trans (Rp.mono hL.2.2.1)⟩
      simp only [VR]
      exact ⟨⟨0, s, 0, true⟩, Gm.Bq _ _ _, rfl, .inl ⟨rfl, rfl, rfl, rfl⟩⟩
    · obtain ⟨k, z', hz', Jc⟩ := run_append_grow (ty := ty) (base := none) (n := 0) (c := 0) (old := []) hu ht' hs hz hb g3 (hl w.drawn) ME (by simpa using V8) rfl (hf _)
      have Rp := Y7 (k := k) (old := []) (nc := us) hL.1 hs g2 hz' g1 hE hcm TM II
      have hd := Au.drew hL.1 H.next hL.2.2.1
      refine ⟨_, _, by simpa using Jc, _, _, _, hK, NY (Γ := Cq) ⟨w.heap.size, s, m + k, false⟩ H2.next m rfl (Nat.le_add_right _ _), ?_⟩
      have := (hL.trans hd).trans (Rp.mono hL.2.2.1)
      exact MHw
  split at hv
  · -- nil
    simp only [VR, VP] at hx
    subst hx
    obtain ⟨m, c, H1, Cq, us, ⟨V8, hK⟩, e1, hL, hl, hf, TM, II, hE, hcm⟩ := VD h g2 hy hv
    grind
  · -- a slice of the aQ4 own
    rename_i n s' off len
    split at hv <;> try exact hv.elim
    rename_i OQ
    simp only [qC] at OQ
    have hs' := qI OQ.1
    have aGo := qI OQ.2
    subst hs'; subst aGo
    obtain ⟨m, c1, H1, Cq, us, hK, e1, hL, hl, hf, TM, II, hE1, hcm⟩ := VD h g2 hy hv
    split at hK <;> try exact hK.elim
    rename_i o ho
    split at hK <;> try exact hK.elim
    rename_i aJq
    simp only [vE, Bool.not_eq_false'] at aJq
    have hte := qI aJq.2
    have Ea := aJq.1
    clear aJq
    simp only [VR] at hx
    obtain ⟨q, hq, dE, Ta⟩ := hx
    have GA : Cq.nm n = some q := by rw [e1]; exact hq
    have AO : BV o.c = true := by
      cases Uj : o.c <;> first | rfl | (rw [Uj] at hK; simp [O1] at hK)
    have Jn : ∀ cs, o.c ≠ .bx cs := by
      intro cs e
      rw [e] at hK
      simp [O1] at hK
    obtain ⟨q', Gp, Em⟩ := hL.1.Dz n o ho
    rw [GA] at Gp
    injection Gp with eq
    subst eq
    have aJr := hL.1.del n
    rcases Ta with ⟨BF, _, rfl, rfl⟩ | ⟨BF, htc, o', rfl, Yu⟩
    · rcases (BA AO).1 Em with ⟨_, he, hsz⟩ | ⟨e, _⟩
      · rw [dE] at hsz
        obtain ⟨c0, ⟨V8, hK⟩, hE0, hc0, dF, _⟩ := LV hsz Jn hK
        obtain ⟨c, hK, hE, hfc, VE⟩ := Y8 hE0 hE1 hK
        have aSJ : flat c0 = [] := qY MAe
        refine aQ3 m c H1 { H1 with l := HV H1.l n } Cq us (hL.trans (aJr.mono hL.2.2.1)) rfl hl hf ?_ II hE ME (by simpa using V8) ?_
        · simp_all
        simp_all
      simp_all
    · rcases (BA AO).1 Em with ⟨e, _⟩ | ⟨_, hcr⟩
      · simp_all
      obtain ⟨Y9, rest, zz, h1, h2, h3, SK, h4, h5, h6, h7, h8⟩ := hcr
      rw [dE] at h7 h4
      obtain ⟨c0, ⟨V8, hK⟩, hE0, hc0, dF, aSK⟩ := LV h7 Jn hK
      obtain ⟨c, hK, hE, hfc, VE⟩ := Y8 hE0 hE1 hK
      simp only [vQ, ji] at dF
      have hlu := BH h5
      have hv0 : CX Cq (flat c0) (Y9.take (len * s)) := by rw [dF]; exact IZ _ h5
      have hl0 : (Y9.take (len * s)).length = len * s := by rw [BH hv0, hE0.len, hc0]
      have hp0 : ∀ v ∈ Y9.take (len * s), CZ v = true := fun v hv => h6 v (kQ hv)
      have aQx : us.length = m * s := by rw [BH TM, hE1.len, hcm]
      have hvc : CX Cq (flat c) (Y9.take (len * s) ++ us) := by rw [hfc]; exact GY hv0 TM
      have rA : ∀ v ∈ Y9.take (len * s) ++ us, CZ v = true := by
        intro v hv
        rcases qa.1 hv with hv | hv
        · exact hp0 v hv
        · exact II v hv
      have aET : GJ c = len + m := by rw [VE, hc0, hcm]
      simp only [jk]
      by_cases bV : len + m <= q.tc
      · -- there is room
        have aOq := hL.1.rename ho GA
        have hgn : Aq (Hp.push { H1 with l := HV H1.l n } o).l H1.next = some o := D7
        have F4 : (Cq.put H1.next q).nm H1.next = some q := Gm.Bq _ _ _
        have aJs : Cq.le (Cq.put H1.next q) := Gm.Oa (hL.1.fresh _ (qN _))
        have hmul : (len + m) * s <= q.tc * s := kR _ bV
        rw [Nat.add_mul] at hmul
        have Jc := Rz (P := C.P) q.blk o.t zz us (len * s) 0 w ⟨Y9 ++ rest⟩ h1 h2 MAe II
        rw [vz] at Jc
        have htk : len * s <= Y9.length := by rw [qj] at hl0; omega
        have bK : Fv (Y9 ++ rest) (len * s) us = (Y9.take (len * s) ++ us) ++ (Y9 ++ rest).drop (len * s + us.length) := by
          rw [mR ME, zX htk]
        simp only [bK] at Jc
        have LJ : (storeCells ((⟨q.blk, o', none⟩ : Addr).add (len * s)) us).run C.P w = .ok () (CL w q.blk (.cells ⟨(Y9.take (len * s) ++ us) ++ (Y9 ++ rest).drop (len * s + us.length)⟩ o.t zz)) := by
          rcases Yu with rfl | Yu
          · rw [Jh _ rfl]
            simpa using Jc
          · have hm0 : m = 0 := by omega
            have PD : us = [] := qY MHl
            subst PD
            exact Jc
        subst hte
        have Ob := aOq.1.bY hgn Ea F4 BF (o' := ⟨o.t, false, c⟩) rfl (x := .cells ⟨(Y9.take (len * s) ++ us) ++ (Y9 ++ rest).drop (len * s + us.length)⟩ o.t zz)
          ((BA (o := ⟨o.t, false, c⟩) hE.cells).2 (.inr ⟨BF, Y9.take (len * s) ++ us, (Y9 ++ rest).drop (len * s + us.length), zz, D5 h1, by
            grind, h3, SK, by
            grind, Cw aJs _ _ hvc, rA, by rw [dE]; exact hE.sized _, fun e => MJ9⟩))
        refine ⟨_, _, run_append_fits hu ht' hs (hl w.drawn) (hf w.drawn) bV LJ, _, _, Cq.put H1.next q, hK, ?_, ?_⟩
        · simp only [VR]
          refine ⟨q, Gm.Bq _ _ _, dE, .inr ⟨BF, by omega, o', rfl, ?_⟩⟩
          trivial
        · have hx := (hL.trans (aOq.mono hL.2.2.1)).trans (Ob.mono (by show H.next <= H1.next + 1; have := hL.2.2.1; omega))
          have TQ : DJ (Hp.push { H1 with l := HV H1.l n } o).l H1.next ⟨o.t, false, c⟩ = (Hp.push { H1 with l := HV H1.l n } ⟨o.t, false, c⟩).l := by
            simp [Hp.push, DJ]
          rw [TQ] at hx
          exact hx
      · -- a new block
        have hold : (Builtin.firstCells s len (.slice (some ⟨q.blk, o', none⟩) len q.tc)).run C.P { w with drawn := w.drawn + 1 } = .ok ⟨Y9.take (len * s)⟩ { w with drawn := w.drawn + 1 } := by
          rcases kS len with hz0 | hz0
          · subst hz0
            simp only [vQ, zH, Builtin.firstCells]
            rfl
          · have Ws : o' = 0 := by
              rcases Yu with e' | e'
              · simpa using e'
              · omega
            subst Ws
            have := Qi (P := C.P) (w := { w with drawn := w.drawn + 1 }) q.blk 0 (Y9.take (len * s)) (fun j u hj => by
              grind [HZ])
            rw [hl0] at this
            exact this
        obtain ⟨k, z', hz', Jc⟩ := run_append_grow (ty := ty) hu ht' hs hz hb g3 (hl w.drawn) bV V8 hold (hf _)
        have Rp := Y7 (k := k) (m := len + m) (old := Y9.take (len * s)) (nc := us) (aJr.1) hs g2 hz' g1 hE aET hvc rA
        have hd := Au.drew aJr.1 H.next (by show H.next <= H1.next; exact hL.2.2.1)
        refine ⟨_, _, Jc, _, _, _, hK, NY (Γ := Cq) ⟨w.heap.size, s, len + m + k, false⟩ H1.next (len + m) rfl (Nat.le_add_right _ _), ?_⟩
        exact ((hL.trans (aJr.mono hL.2.2.1)).trans hd).trans (Rp.mono hL.2.2.1)
  · exact hv.elim
end
end Go.Proofs.YtkegmchjobphdaaGreatDoor.Y
namespace Go.Proofs.YtkegmchjobphdaaGreatDoor.Y
open Go
section
variable {C:Cx} {Γ:Gm} {H:Hp} {w:World}
theorem R.blank (h:R C Γ H w) (ob:Obj):Au C H.next Γ H w Γ H (w.alloc ob):=by
 have hold:∀ k,k<w.heap.size->(w.alloc ob).heap[k]?=w.heap[k]?:=fun k hk=>RowKit.Below.heap_alloc w _ k hk
 refine⟨⟨h.Jq,h.fresh,fun b arr Qd=>?_,fun n p hp=>?_,h.own,h.apart⟩,Ext.refl _ _,qN _,⟨rfl,rfl,rfl,by simp,fun k hk _=>hold k hk,fun k hk=>.inr hk,FW.le_refl _,fun k a hk=>.inl hk⟩⟩
 ·obtain⟨t,z,e⟩:=h.Io b arr Qd
  grind
 ·obtain⟨q1,e1,e2⟩:=h.Dz n p hp
  exact⟨q1,e1,e2.ext (Gm.le_refl _) fun BF=>hold _ (e2.IP BF)⟩
theorem R.lose (h:R C Γ H w) {n:Nat} {o:Ag} {q:Pl} {w':World} (hn:Aq H.l n=some o) (Ea:o.fr=false) (hq:Γ.nm n=some q) (BF:q.nl=false) (h1:w'.os=w.os) (h2:w'.tape=w.tape) (h3:w'.output=w.output)
  (h4:w'.heap.size=w.heap.size) (h5:∀ k,k ≠ q.blk->w'.heap[k]?=w.heap[k]?):Au C H.next Γ H w Γ { H with l:=HV H.l n } w':=by
 have hd:=h.del n
 have Qd:=h.own n o q hn Ea hq BF
 have how:RJ Γ H q.blk:=MHq
 refine⟨⟨h.Jq,h.fresh,fun b arr hb=>?_,fun m p hm=>?_,hd.1.own,hd.1.apart⟩,Ext.refl _ _,qN _,⟨h1,h2,h3,by omega,fun k hk Bt=>?_,hd.2.2.2.Wn,FW.le_refl _,fun _ _ h=>.inl h⟩⟩
 ·obtain⟨t,z,e⟩:=h.Io b arr hb
  grind
 ·obtain⟨ES,hm⟩:=Bc.1 hm
  obtain⟨q1,e1,e2⟩:=h.Dz m p hm
  refine⟨q1,e1,e2.ext (Gm.le_refl _) fun aOn=>h5 _ fun e'=>?_⟩
  exact h.apart n o m p q q1 hn hm (vW ES) hq e1 Ea BF aOn e'.symm
 grind
theorem VB {l:List (Nat × Ag)} {n:Nat} {o:Ag} (h:Aq l n=some o):DJ l n o=l:=by
 induction l with
 | nil=>rfl
 | cons p r ih=>
  obtain⟨k,y⟩:=p
  by_cases hk:k=n
  ·subst hk
   rw [D7] at h
   injection h with h
   subst h
   simp [DJ]
  grind [Eb,DJ,Ll]
theorem aCV {α:Type} (l:List α) (k:Nat):Fv l k []=l:=by
 apply kU
 grind [GI]
theorem aCW {α β:Type} (g:α->β) (l:List α) (k:Nat) (vs:List α):(Fv l k vs).map g=Fv (l.map g) k (vs.map g):=by
 apply kU
 intro i
 rw [kF,GI,GI]
 grind
theorem aA4 (h:R C Γ H w) {t t' ty:TypeId} {x y:AV} {x' y':Value} (hx:VR Γ x x') (hy:VR Γ y y') {K:KH} (hv:uN C t x y H K) :
  ∃ v' w',(Builtin.copy_ #[t,t'] ty #[x',y']).run C.P w=.ok v' w'/\NV C Γ H w K v' w':=by
 unfold uN at hv
 split at hv <;> try exact hv.elim
 rename_i e hu
 split at hv <;> try exact hv.elim
 rename_i s hs
 split at hv <;> try exact hv.elim
 rename_i n s' off len
 split at hv <;> try exact hv.elim
 rename_i OQ
 simp only [qC] at OQ
 have hs':=qI OQ.1
 subst hs'
 have g2:0<s:=by simpa using OQ.2
 obtain⟨m,c1,H1,Cq,us,hK,e1,hL,hl,hf,TM,II,hE1,hcm⟩:=VD h g2 hy hv
 split at hK <;> try exact hK.elim
 rename_i o ho
 split at hK <;> try exact hK.elim
 rename_i Ea
 simp only [VR] at hx
 obtain⟨q,hq,dE,Ta⟩:=hx
 have GA:Cq.nm n=some q:=by rw [e1];exact hq
 have TK:(Builtin.lenOf y').run C.P w=.ok m w:=hl w.drawn
 have aQx:us.length=m * s:=by rw [BH TM,hE1.len,hcm]
 have hf':(Builtin.firstCells s m y').run C.P w=.ok ⟨us⟩ w:=hf w.drawn
 unfold aOo at hK
 split at hK <;> try exact hK.elim
 rename_i xs ys Uj
 obtain⟨⟨hle,hml⟩,zs,rfl,hK⟩:=hK
 have O0:s=1:=hE1.sized 0
 subst O0
 have aQy:Nat.min m len=m:=xG hml
 have hym:ys.length=m:=hcm
 rcases Ta with ⟨BF,rfl,rfl,rfl⟩ | ⟨BF,htc,o',rfl,Yu⟩
 ·-- nothing
  have hm0:m=0:=by omega
  have fM:ys=[]:=qY ME
  subst hm0;subst fM
  have TQ:DJ H1.l n { o with c:=.pu (Fv xs 0 []) }=H1.l:=by
   have e0:({ o with c:=.pu (Fv xs 0 []) }:Ag)=o:=by
    cases o;simp only at Uj;subst Uj;simp [Fv,Ww]
   rw [e0];exact VB ho
  rw [TQ] at hK
  refine⟨.int .i64 0,w,?_,_,_,Cq,hK,by rfl,hL⟩
  simp [Builtin.copy_,run_underlying hu,TK,CO hs,hf',goInt]
 ·rcases kS m with hm0 | hm0
  ·have fM:ys=[]:=qY ME
   subst hm0;subst fM
   have PD:us=[]:=qY ME
   subst PD
   have TQ:DJ H1.l n { o with c:=.pu (Fv xs off []) }=H1.l:=by
    have e0:({ o with c:=.pu (Fv xs off []) }:Ag)=o:=by
     cases o;simp only at Uj;subst Uj;simp [aCV]
    rw [e0];exact VB ho
   rw [TQ] at hK
   refine⟨.int .i64 0,w,?_,_,_,Cq,hK,by rfl,hL⟩
   simp [Builtin.copy_,run_underlying hu,TK,CO hs,hf',goInt,storeCells]
  ·have Ws:o'=off:=by
    rcases Yu with e' | e'
    ·simp_all
    ·omega
   subst Ws
   have hvy:CX Cq (ys.map .p) us:=TM
   obtain⟨w',LJ,Rp⟩:=VC (k:=o') (vs:=ys.map .p) (vs':=us) (c':=.pu (Fv xs o' ys)) hL.1 ho Ea MIh GA BF MLC hvy II rfl (by
    grind [flat,aCW]) (by rw [dE];rfl)
   refine⟨.int .i64 m,w',?_,_,_,Cq,hK,by rfl,hL.trans (Rp.mono hL.2.2.1)⟩
   simp [Builtin.copy_,run_underlying hu,TK,CO hs,aQy,hf',LJ,goInt]
theorem aA5 (h:R C Γ H w) {ts:Array TypeId} {ty:TypeId} {x:AV} {x':Value} (hx:VR Γ x x') {K:KH} (hv:uP C ty x H K) :
  ∃ v' w',(Builtin.unsafeSliceData_ ts ty #[x']).run C.P w=.ok v' w'/\NV C Γ H w K v' w':=by
 have hrefl:=Au.refl h H.next (qN _)
 unfold uP at hv
 split at hv <;> try exact hv.elim
 rename_i e hu
 split at hv <;> try exact hv.elim
 ·simp only [VR,VP] at hx
  subst hx
  exact⟨_,_,Lib.run_unsafeSliceData_nil w ts ty 0 0,_,_,Γ,hv,by rfl,hrefl⟩
 ·rename_i n s off len
  split at hv <;> try exact hv.elim
  rename_i o ho
  split at hv <;> try exact hv.elim
  rename_i hc
  simp only [VR] at hx
  obtain⟨q,hq,dE,Ta⟩:=hx
  rcases Ta with ⟨BF,rfl,rfl,rfl⟩ | ⟨BF,htc,o',rfl,Yu⟩
  ·exact⟨_,_,Lib.run_unsafeSliceData_nil w ts ty 0 0,_,_,Γ,hv.2 rfl,MEE,hrefl⟩
  ·by_cases hcap:q.tc - off=0
   ·have hl0:len=0:=by omega
    rw [hcap]
    obtain⟨us,rest,z,h1,_⟩:=cellsOf h ho hc hq BF
    have hsh:w.shape? (⟨q.blk,o',none⟩:Addr).block=some (o.t,(us++rest).length):=by simp [World.shape?,h1]
    exact⟨_,_,Lib.run_unsafeSliceData_zero w ts ty e hu ⟨q.blk,o',none⟩ len _ hsh,_,_,Γ,hv.2 hl0,MEE,h.blank _⟩
   ·rcases kS len with hl0 | hl0
    ·exact⟨_,_,Lib.run_unsafeSliceData_row w ts ty _ len _ hcap,_,_,Γ,hv.2 hl0,MEE,hrefl⟩
    ·have Ws:o'=off * q.s:=by
      rcases Yu with e' | e'
      ·exact e'
      ·omega
     exact⟨_,_,Lib.run_unsafeSliceData_row w ts ty _ len _ hcap,_,_,Γ,hv.1 hl0,by simp only [VR];exact⟨q,hq,BF,by rw [Ws];rfl⟩,hrefl⟩
theorem aA6 (h:R C Γ H w) {t t' ty:TypeId} {x y:AV} {x' y':Value} (hx:VR Γ x x') (hy:VR Γ y y') {K:KH} (hv:uQ C t x y H K) :
  ∃ v' w',(Builtin.unsafeString_ #[t,t'] ty #[x',y']).run C.P w=.ok v' w'/\NV C Γ H w K v' w':=by
 have hrefl:=Au.refl h H.next (qN _)
 unfold uQ at hv
 split at hv <;> try exact hv.elim
 rename_i k m
 split at hv <;> try exact hv.elim
 rename_i hk
 have hk:k=.i64:=MEW
 subst hk
 simp only [VR,VP] at hy
 subst hy
 split at hv <;> try exact hv.elim
 ·obtain⟨rfl,hv⟩:=hv
  simp only [VR,VP] at hx
  subst hx
  exact⟨_,_,Lib.run_unsafeString_none w t t' ty none,_,_,Γ,hv,by rfl,hrefl⟩
 ·obtain⟨rfl,hv⟩:=hv
  simp only [VR] at hx
  obtain⟨a,rfl⟩:=hx
  exact⟨_,_,Lib.run_unsafeString_none w t t' ty a,_,_,Γ,hv,by rfl,hrefl⟩
 ·rename_i a i f
  split at hv <;> try exact hv.elim
  rename_i o hb ho
  simp only [qC] at hb
  have hi:=qI hb.1
  have hf:=qI hb.2
  subst hi;subst hf
  split at hv <;> try exact hv.elim
  rename_i e hu
  split at hv <;> try exact hv.elim
  rename_i VE
  simp only [vE,Bool.not_eq_false'] at VE
  obtain⟨⟨Ea,hte⟩,hce⟩:=VE
  have hte:=qI hte
  have hce:=qI hce
  split at hv <;> try exact hv.elim
  rename_i xs Uj
  obtain⟨s,fF,rfl,aQz,hsx,hsm,hv⟩:=hv
  simp only [VR] at hx
  obtain⟨q,hq,BF,rfl⟩:=hx
  simp only [vQ,vz]
  obtain⟨us,rest,z,h1,h2,h3,SK,h4,h5,h6,h7,h8⟩:=cellsOf h ho MIh hq BF
  rw [Uj] at h5
  have h5:=CJ.1 h5
  have hlu:=Cu h5
  have h5':=HY s.length h5
  rw [hsm] at h5'
  have PD:=mP h5'
  have Jc:=Lib.run_unsafeString_row (P:=C.P) w t t' ty e hu hce q.blk (us++rest).length (by grind [World.shape?]) s fF MEL aQz (by
   intro j x hj
   rw [Jh _ rfl]
   simp only [ql]
   have hg:(us.take s.length)[j]?=some (.int .u8 (x.toNat:Int)):=by rw [PD,kF,hj];rfl
   grind [HZ])
  refine⟨_,_,Jc,_,_,Γ,hv,by rfl,h.lose ho Ea hq BF ?_ ?_ ?_ ?_ ?_⟩
  all_goals unfold World.freeze
  all_goals split
  all_goals first | rfl | skip
  ·simp
  ·intro k hk;rfl
  grind
theorem VF (w:World) (e:TypeId) (s:ByteArray):Lib.bytesWorld w e s=w.drew.alloc (.cells (Lib.bytesCells w e s) e ((Lib.bytesCells w e s).size,(Lib.bytesCells w e s).size+1)):=by
 have h1:=Lib.bytesWorld_at_new w e s
 have hh:(Lib.bytesWorld w e s).heap=(w.drew.alloc (.cells (Lib.bytesCells w e s) e ((Lib.bytesCells w e s).size,(Lib.bytesCells w e s).size+1))).heap:=by
  apply Array.ext_getElem?
  intro j
  by_cases hj:j<w.heap.size
  ·rw [Lib.bytesWorld_at_old w e s j hj]
   exact(RowKit.Below.heap_alloc w.drew _ j hj).symm
  ·by_cases hj2:j=w.heap.size
   ·subst hj2
    rw [h1]
    exact(heap_alloc_new w.drew _).symm
   ·have hs:=Lib.bytesWorld_size w e s
    rw [Array.getElem?_eq_none ME,Array.getElem?_eq_none]
    show(w.drew.heap.push _).size<=j
    rw [Array.size_push]
    show w.heap.size+1<=j
    omega
 have key:∀ (a b:World),a.heap=b.heap->a={ b with heap:=a.heap }->a=b:=by
  intro a b h1 h2
  rw [h2,h1]
 exact key _ _ hh rfl
theorem uM (h : R C Γ H w) {s d e : TypeId} (hd : C.P.underlying d = some (.slice e)) {x : AV} {x' : Value} (hx : VR Γ x x') {K : KH} (hv : Y5 C s e x H K) :
    ∃ v' w', (convert s d x').run C.P w = .ok v' w' /\ NV C Γ H w K v' w' := by
  unfold Y5 at hv
  split at hv <;> try exact hv.elim
  rename_i k z hs he hz
  split at hv <;> try exact hv.elim
  rename_i b hkz
  simp only [qC] at hkz
  have hk : k = .u8 := by simpa using hkz.1
  have hz1 := qI hkz.2
  subst hk; subst hz1
  simp only [VR, VP] at hx
  subst hx
  have Jc := Lib.run_convert_string_bytes (P := C.P) w s d e ⟨⟨b⟩⟩ hs hd he
  rw [VF] at Jc
  have hsz : (⟨⟨b⟩⟩ : ByteArray).size = b.length := rfl
  have hge : b.length <= grownCap w b.length 0 e := grownCap_ge w b.length 0 e
  have Y4 : Lib.bytesCells w e ⟨⟨b⟩⟩ = ⟨(b.map fun c => Value.int .u8 (c.toNat : Int)) ++ List.replicate (grownCap w b.length 0 e - b.length) (.int .u8 0)⟩ := by
    apply vK
    simp [Lib.bytesCells, hsz]
  have JM : (Lib.bytesCells w e ⟨⟨b⟩⟩).size = grownCap w b.length 0 e := by rw [Y4]; simp; omega
  have TM : CX Γ (flat (.pu (b.map ub))) (b.map fun c => Value.int .u8 (c.toNat : Int)) := by
    refine CJ.2 ?_
    clear hv Jc hsz hge Y4 JM
    induction b with
    | nil => rfl
    | cons c r ih => simp only [kI, Ey]; exact ⟨_, _, rfl, by rfl, ih⟩
  have hd1 := Au.drew h H.next (qN _)
  have hR : R C Γ H w.drew := hd1.1
  have Rp := hR.push (q := ⟨w.heap.size, 1, grownCap w b.length 0 e, false⟩) (o := ⟨e, false, .pu (b.map ub)⟩) (ob := .cells (Lib.bytesCells w e ⟨⟨b⟩⟩) e ((Lib.bytesCells w e ⟨⟨b⟩⟩).size, (Lib.bytesCells w e ⟨⟨b⟩⟩).size + 1)) rfl rfl rfl
    ((BA (o := ⟨e, false, .pu (b.map ub)⟩) rfl).2 (.inr ⟨rfl, b.map fun c => Value.int .u8 (c.toNat : Int), List.replicate (grownCap w b.length 0 e - b.length) (.int .u8 0), ((Lib.bytesCells w e ⟨⟨b⟩⟩).size, (Lib.bytesCells w e ⟨⟨b⟩⟩).size + 1), by
      rw [<- Y4]; exact heap_alloc_new w.drew _, .inr MAe, hz, Nat.one_pos, by simp; omega, Cw (Gm.Oa (hR.fresh _ (qN _))) _ _ TM, by
      intro u hu
      obtain ⟨c, _, rfl⟩ := qz.1 hu
      rfl, rfl, fun e => MJ9⟩))
  refine ⟨_, _, Jc, _, _, _, hv, ?_, hd1.trans Rp⟩
  exact NY (Γ := Γ) ⟨w.heap.size, 1, grownCap w b.length 0 e, false⟩ H.next b.length rfl hge
end
end Go.Proofs.YtkegmchjobphdaaGreatDoor.Y
namespace Go.Proofs.YtkegmchjobphdaaGreatDoor.Y
open Go
section
variable {C:Cx} {df0:Option (List Deferred)} {Γ:Gm} {H:Hp} {w:World} {σ:Sg} {ds:List AD} {N:Nat} {a:Act}
theorem SR.mono {BU:Gm} (h:SR df0 Γ σ ds N a) (hb:Γ.le BU):SR df0 BU σ ds N a:=⟨h.size,fun t=>EF hb _ _ (h.tm t),Kg hb h.df⟩
theorem SR.put {BU:Gm} {CS:List AD} (h:SR df0 Γ σ ds N a) (hb:Γ.le BU) {d:Nat} {v:AV} {v':Value} {mI:List Deferred} (hv:VR BU v v') (hd:Uh df0 BU CS mI) (hN:d<N):SR df0 BU (bI σ d v) CS N (({ a with defers:=mI }:Act).put (some d) v'):=by
 refine⟨by simp [Act.put,h.size],fun t=>?_,MDL⟩
 simp only [Act.put,kN]
 by_cases e:t=d
 ·subst e
  rw [Jb,Array.getElem?_setIfInBounds_self_of_lt (by rw [h.size];exact hN)]
  exact hv
 ·rw [E9 _ _ e,jF (vW e)]
  have:=h.tm t
  rw [kN] at this
  grind [EF]
theorem NQ (h:R C Γ H w) (hS:SR df0 Γ σ ds N a) (x:Operand):VR Γ (Ci C σ x) (a.eval x):=by
 cases x with
 | tmp t=>exact hS.tm t
 | const v=>
  grind [Ci,Act.eval,VR,Yz]
 | global g=>
  simp only [Ci,Act.eval]
  split
  ·rename_i cs e
   simp only [VR]
   exact(h.Jq g cs e).1
  trivial
 | func f=>simp only [Ci,Act.eval,VR,VP];exact⟨rfl,#[],#[],rfl,mJ,mJ⟩
theorem aA0 {v:AV} {v':Value} (h:VR Γ v v'):Ny Γ [⟨v,false⟩] [{ v:=v',recovered:=false }]:=by
 simp only [Ny]
 exact⟨_,_,rfl,⟨h,rfl,rfl⟩,rfl⟩
theorem Yq {P:Program} {ro:Option Nat} {f:FuncId} {args:Array Value} {Q:Ending->World->Prop} (h:Calls P f args w Q):CallsIn (Fz ro) 0 P f args w Q:=(callsIn_wide (n:=0)).2 h
structure aQv (C:Cx) (df0:Option (List Deferred)) (Γ:Gm) (H:Hp) (w:World) (a:Act) (dst:Option Tmp) (K:AV->List AD->Hp->Prop) (X:List AP->Hp->Prop) (next:Act->World->Prop) (Q:Exit->Act->World->Prop):Prop where
 k:∀ v CS H' BU v' mI w',K v CS H'->VR BU v v'->Uh df0 BU CS mI->Au C H.next Γ H w BU H' w'->next (({ a with defers:=mI }:Act).put dst v') w'
 x:∀ ch H' BU Gz w',X ch H'->Ny BU ch Gz->Au C H.next Γ H w BU H' w'->Q (.panic Gz) a w'
theorem Kc {v:AV} {v':Value} (hv:VR Γ v v') {f:Fn} {fs cs:List AV} (h:U2 v=some (f,fs,cs)):∃ f' bf Dt,v'=.func f' bf Dt/\FR Γ f f'/\CX Γ fs bf.toList/\CX Γ cs Dt.toList:=by
 cases v with
 | fn f0 a b=>
  simp only [U2,qo,jQ] at h
  obtain⟨rfl,rfl,rfl⟩:=h
  trivial
 | p x=>
  cases x <;> simp only [U2,reduceCtorEq,qo,jQ] at h
  obtain⟨rfl,rfl,rfl⟩:=h
  simp only [VR,VP] at hv
  obtain⟨DF,bf,Dt,rfl,h1,h2⟩:=hv
  exact⟨_,bf,Dt,rfl,(tq DF).2 rfl,CJ.2 h1,CJ.2 h2⟩
 | _=>simp [U2] at h
theorem aA1 {x:AV} {x':Value} {neg aOm b:Bool} {p:Prop} (hx:VR Γ x x') (h:aA2 x neg=some (aOm,b,p)):aOm=neg/\∃ a n c,x'=.slice a n c/\(a=none->p)/\(a ≠ none->b=true):=by
 unfold aA2 at h
 split at h
 ·simp only [qo,jQ] at h
  obtain⟨rfl,rfl,rfl⟩:=h
  simp only [VR,VP] at hx
  simp_all
 ·exact MIH
 ·exact MIH
 ·simp only [qo,jQ] at h
  obtain⟨rfl,rfl,rfl⟩:=h
  simp only [VR] at hx
  obtain⟨q,_,_,h1⟩:=hx
  grind
 ·cases h
theorem aMs {P:Program} {w:World} {t e:TypeId} (d:Nat) (hu:P.underlying t=some (.slice e)) (a:Option Addr) (n c:Nat):(Op.equalIn (d+1) t (.slice a n c) (.slice none 0 0)).run P w=.ok a.isNone w:=by
 cases a <;> simp [Op.equalIn,run_underlying hu]
theorem aEM {P:Program} {w:World} {t e:TypeId} (hu:P.underlying t=some (.slice e)) (a:Option Addr) (n c:Nat) :
  (binOp .eql t (.slice a n c) (.slice none 0 0)).run P w=.ok (.bool a.isNone) w/\(binOp .neq t (.slice a n c) (.slice none 0 0)).run P w=.ok (.bool (!a.isNone)) w:=by
 have h:=aMs (w:=w) 9999 hu a n c
 constructor <;> simp [binOp,Op.equal,Op.maxDepth,h]
theorem aGl {P:Program} {w w':World} {s:Sem Value} {v:Value} (h:s.run P w=.ok v w'):(do pure (.value (<- s)):Sem Next).run P w=.ok (.value v) w':=by simp [h]
theorem aEN {C:Cx} {H:Hp} {w:World} (h:R C Γ H w) {op:BinOp} {t:TypeId} {x y:AV} {x' y':Value} {neg b:Bool} {p:Prop} {X Y:Operand} (hx:VR Γ x x') (hy:VR Γ y y') (hq:dA op x y=some (neg,b,p)) {K:KH} (hv:aGm C t neg b p H K) :
  ∃ v' w',(do eqGuard op t X Y x' y';binOp op t x' y':Sem Value).run C.P w=.ok v' w'/\NV C Γ H w K v' w':=by
 unfold aGm at hv
 split at hv <;> try exact hv.elim
 rename_i e hu
 have fin:∀ (aMt:Bool),op=(if aMt then .neq else .eql)->y'=.slice none 0 0->aA2 x aMt=some (neg,b,p)->∃ v' w',(do eqGuard op t X Y x' y';binOp op t x' y':Sem Value).run C.P w=.ok v' w'/\NV C Γ H w K v' w':=by
  intro aMt rW hy' hn
  obtain⟨rfl,a,n,c,rfl,h1,h2⟩:=aA1 hx hn
  subst hy'
  obtain⟨e1,e2⟩:=aEM (w:=w) hu a n c
  refine⟨.bool (if neg then !a.isNone else a.isNone),w,?_,?_⟩
  ·rw [Sem.run_bind,Ei _ _ _ _ rfl,rW]
   grind [Result.andThen_ok]
  ·cases a with
   | none=>
    refine⟨vB (!neg),H,Γ,hv.2 (h1 rfl),?_,Au.refl h _ (qN _)⟩
    simp only [VR,VP]
    cases neg <;> rfl
   | some a=>
    have hb:=h2 MBV
    rw [hb] at hv
    refine⟨vB neg,H,Γ,hv.1,?_,Au.refl h _ (qN _)⟩
    simp only [VR,VP]
    cases neg <;> rfl
 unfold dA at hq
 split at hq <;> try (cases hq;done)
 simp only [VR,VP] at hy
 grind
theorem aEO {C:Cx} {Γ:Gm} {H:Hp} {w:World} (_:R C Γ H w) {t:TypeId} {name:String} {g:FuncId} {k:Option Nat} {v u:AV} {v':Value} (hm:aCR C t name=some (g,k)) (hv:VR Γ v v') (hu:tu v k=some u) :
  ∃ u',(∀ n,(method (n+1) t v' name).run C.P w=.ok (g,u') w)/\VR Γ u u':=by
 unfold aCR at hm
 split at hm <;> try cases hm
 rename_i i hi
 split at hm <;> try cases hm
 rename_i m hmm
 split at hm <;> try cases hm
 rename_i g' pr hf
 have ht:(typeInfo t).run C.P w=.ok i w:=by simp [typeInfo,program,Sem.run,hi]
 split at hm
 ·rename_i hp
  have key : ∀ d, C.P.underlying t = some d -> (receiverAt t (.val v') pr (if m.path.isEmpty then some ((name.splitOn ".").getLastD name) else none)).run C.P w = .ok v' w -> k = none -> g' = g -> ∃ u', (∀ n, (method (n + 1) t v' name).run C.P w = .ok (g, u') w) /\ VR Γ u u' := by
   rintro d hd hr rfl rfl
   simp only [tu,qo] at hu
   subst hu
   refine⟨v',fun n=>?_,hv⟩
   simp only [method,Sem.run_bind,ht,Result.andThen_ok,hmm,hp,follow,Sem.run_pure,hf]
   rw [hr]
   rfl
  split at hm <;> try cases hm
  ·rename_i e hd
   exact MGB
  ·rename_i d ES hd
   exact MGB
 ·rename_i s hp
  split at hm <;> try cases hm
  rename_i fs hb hs
  simp only [qC] at hb
  split at hm <;> try cases hm
  rename_i fd Vo
  split at hm <;> try cases hm
  rename_i z d ES hz hd
  cases v <;> simp only [tu,qo,reduceCtorEq] at hu
  rename_i n j f
  subst hu
  simp only [VR] at hv
  obtain⟨q,hq,BF,rfl⟩:=hv
  refine⟨.pointer (some ⟨q.blk,j * q.s+(f+fd.offset),none⟩),fun n=>?_,by simp only [VR];exact⟨q,hq,BF,rfl⟩⟩
  obtain⟨i',fI,hi2⟩:=JE hz
  have hsz:(sizeOf fd.type).run C.P w=.ok (z+1) w:=CO hz w
  have hfp:(fieldPlace ⟨q.blk,j * q.s+f,none⟩ fd).run C.P w=.ok ⟨q.blk,j * q.s+(f+fd.offset),none⟩ w:=by
   simp [fieldPlace,hsz,Addr.add,Nat.add_assoc]
  have hfo:(follow [s] t (.val (.pointer (some ⟨q.blk,j * q.s+f,none⟩)))).run C.P w=.ok (fd.type, .var ⟨q.blk,j * q.s+(f+fd.offset),none⟩) w:=by
   simp only [follow,Sem.run_bind,run_underlying hs,Result.andThen_ok,Vo,hb.1,jv,Place.get,Sem.run_pure,asAddr,hfp]
  have hrv : (receiverAt fd.type (.var ⟨q.blk, j * q.s + (f + fd.offset), none⟩) true (if m.path.isEmpty then some ((name.splitOn ".").getLastD name) else none)).run C.P w = .ok (.pointer (some ⟨q.blk, j * q.s + (f + fd.offset), none⟩)) w := by
   simp only [receiverAt,Sem.run_bind,run_underlying hd,Result.andThen_ok]
   cases d <;> first | rfl | exact(ES _ rfl).elim
  simp only [method,Sem.run_bind,ht,Result.andThen_ok,hmm,hp,hfo,hf,hb.2,hrv,Sem.run_pure]
 ·cases hm
theorem Jf {P:Program} {w:World} {b:Nat} {x y:Obj} (h:w.heap[b]?=some x) (hx:aJo x=false):(setObj b y).run P w=.ok () (CL w b y):=by
 grind [aJo,setObj,CL,Sem.run]
theorem uA {t:TypeId} (h:Ry C t=true):∃ kt e,C.P.underlying t=some (.map kt e)/\C.P.underlying kt=some .string:=by
 grind [Ry]
theorem dB (h:R C Γ H w) {t:TypeId} {K:KH} (hv:Pn C t H K):∃ v' w',(Instr.makeMap t none).run C.P w=.ok v' w'/\NV C Γ H w K v' w':=by
 unfold Pn at hv
 split at hv
 ·have hL:=h.push (ob:=.map #[] 0) (q:=⟨w.heap.size,0,0,false⟩) (o:=⟨t,false, .ms []⟩) rfl rfl rfl MHG
  refine⟨.map (some w.heap.size),_,?_,_,_,_,hv,?_,hL⟩
  ·rfl
  ·simp only [VR]
   exact⟨_,Gm.Bq _ _ _,rfl⟩
 ·split at hv <;> try exact hv.elim
  rename_i zs hz
  have hL:=h.push (ob:=.map #[] 0) (q:=⟨w.heap.size,0,0,false⟩) (o:=⟨t,false, .mk zs []⟩) rfl rfl rfl MHG
  refine⟨.map (some w.heap.size),_,?_,_,_,_,hv,?_,hL⟩
  ·simp [Instr.makeMap]
  ·simp only [VR]
   exact⟨_,Gm.Bq _ _ _,rfl⟩
theorem V5 {fz:FW} {a:List UInt8} {y:PV} {y':Value} (hy:VP fz y y'):∀ {es:List (List UInt8 × PV)} {us:List MapEntry} (i:Nat),Q7 fz es us ->
  match Instr.findNow .string (.string ⟨⟨a⟩⟩) us i with
  | some (some (j,_))=>i<=j/\(∃ e,us[j - i]?=some e/\e.key=.string ⟨⟨a⟩⟩)/\Q7 fz (Ed es a y) (us.modify (j - i) fun e=>{ e with key:=.string ⟨⟨a⟩⟩,val:=y' })
  | some none=>∀ (c:Nat),Q7 fz (Ed es a y) (us++[{ key:=.string ⟨⟨a⟩⟩,val:=y',born:=c }])
  | none=>False
 | [],us,i,h=>by
  simp only [Q7] at h
  subst h
  intro c
  exact⟨_,_,rfl,rfl,hy,rfl⟩
 | (k,z)::r,us,i,h=>by
  simp only [Q7] at h
  obtain⟨e,Rk,rfl,h2,h3,h4⟩:=h
  have ih:=V5 (a:=a) hy (i+1) h4
  by_cases hk:a=k
  ·subst hk
   have e1:Instr.sameNow .string (.string ⟨⟨a⟩⟩) e.key=some true:=MKl
   have e2:Ed ((a,z)::r) a y=(a,y)::r:=by simp [Ed]
   simp only [Instr.findNow,e1,e2,jZ]
   refine⟨qN _,⟨e,rfl,h2⟩,?_⟩
   exact⟨_,_,rfl,rfl,hy,h4⟩
  ·have e1:Instr.sameNow .string (.string ⟨⟨a⟩⟩) e.key=some false:=MKI
   have e2:Ed ((k,z)::r) a y=(k,z)::Ed r a y:=by simp [Ed,hk]
   simp only [Instr.findNow,e1,e2]
   split at ih
   ·rename_i j v hj
    obtain⟨g1,⟨e',g2,g3⟩,g4⟩:=ih
    obtain⟨d,rfl⟩:∃ d,j=i+1+d:=⟨j - (i+1),by omega⟩
    have e3:i+1+d - (i+1)=d:=by omega
    have e4:i+1+d - i=d+1:=by omega
    rw [e3] at g2 g4
    simp only [e4]
    refine⟨by omega,⟨e',MJ6,g3⟩,?_⟩
    rw [List.modify_succ_cons]
    exact⟨_,_,rfl,h2,h3,g4⟩
   ·rename_i hj
    intro c
    exact⟨_,_,rfl,h2,h3,ih c⟩
   ·exact ih.elim
theorem dC (h:R C Γ H w) {t:TypeId} {m k x:AV} {m' k' x':Value} {K:KH} (hm:VR Γ m m') (hk:VR Γ k k') (hx:VR Γ x x') (hv:TS C t m k x H K) :
  ∃ w',(Instr.mapUpdate t m' k' x').run C.P w=.ok () w'/\∃ v H' BU,K v H'/\v=Bv/\Au C H.next Γ H w BU H' w':=by
 unfold TS at hv
 split at hv <;> try exact hv.elim
 rename_i n a y LJ
 obtain⟨kt,e,hu,uB⟩:=uA LJ
 have hk:k'=.string ⟨⟨a⟩⟩:=by simpa only [VR,VP] using hk
 subst hk
 simp only [VR] at hx
 split at hv <;> try exact hv.elim
 rename_i o ho
 split at hv <;> try exact hv.elim
 rename_i es hc
 obtain⟨es',rfl,hv⟩:=hv
 simp only [VR] at hm
 obtain⟨q,hq,rfl⟩:=hm
 obtain⟨q',Gp,Em⟩:=h.Dz n o ho
 rw [hq] at Gp
 injection Gp with e'
 subst e'
 obtain⟨t0,fr0,c0⟩:=o
 simp only at hc
 subst hc
 simp only [Cv] at Em
 obtain⟨BF,Ea,us,kk,Em,U6⟩:=Em
 subst Ea
 have hS:=V5 (a:=a) hx 0 U6
 split at hS
 ·rename_i j v hj
  obtain⟨_,⟨e1,g2,g3⟩,g4⟩:=hS
  rw [jk] at g2 g4
  have g2':us[j]?=some e1:=by rw [<- kJ];exact g2
  have h3:=run_findKey (P:=C.P) (w:=w) uB hj
  have h5:(Instr.keyThatStays (.string ⟨⟨a⟩⟩) (.string ⟨⟨a⟩⟩)).run C.P w=.ok (.string ⟨⟨a⟩⟩) w:=by simp [Instr.keyThatStays,Instr.sameBits,bytes_beq]
  have Ob:=h.bY ho rfl hq BF (o':=⟨t0,false, .ms (Ed es a y)⟩) rfl (x:=.map (us.modify j fun e=>{ e with key:=.string ⟨⟨a⟩⟩,val:=x' }) kk) (by
   simp only [Cv]
   refine MLG ?_
   simp_all)
  refine⟨_,?_,Bv,_,Γ,hv,rfl,Ob⟩
  simp [Instr.mapUpdate,run_underlying hu,D9 Em rfl,run_checkKey uB,h3,g2',g3,h5,Jf Em rfl]
 ·rename_i hj
  have h3:=run_findKey (P:=C.P) (w:=w) uB hj
  have Ob:=h.bY ho rfl hq BF (o':=⟨t0,false, .ms (Ed es a y)⟩) rfl (x:=.map (us.push { key:=.string ⟨⟨a⟩⟩,val:=x',born:=kk }) (kk+1)) (by
   simp only [Cv]
   refine MLG ?_
   simp_all)
  refine⟨_,?_,Bv,_,Γ,hv,rfl,Ob⟩
  simp [Instr.mapUpdate,run_underlying hu,D9 Em rfl,run_checkKey uB,h3,Jf Em rfl]
 ·exact hS.elim
theorem aEP {t:TypeId} {zs:List PV} (h:aEQ C t=some zs) (hf:aCS C t zs=true):∃ kt e fs,C.P.underlying t=some (.map kt e)/\C.P.underlying kt=some (.struct fs)/\NW C.P 9 kt zs=true:=by
 grind [aEQ,aCS]
theorem TT {P:Program} {w:World} {fz:FW} {zs a:List PV} {y:PV} {y':Value} {kt:TypeId} {fs:Array Field} (hk:P.underlying kt=some (.struct fs)) (hz:NW P 9 kt zs=true) (ha:Aw zs a=true) (hy:VP fz y y') :
  ∀ {es:List (List PV × PV)} {us:List MapEntry} (i:Nat),U8 fz zs es us ->
  (∃ j v,(Instr.findAsking kt (.agg ⟨a.map real⟩) us i).run P w=.ok (some (i+j,v)) w/\(∃ e,us[j]?=some e/\e.key=.agg ⟨a.map real⟩)/\U8 fz zs (PH es a y) (us.modify j fun e=>{ e with key:=.agg ⟨a.map real⟩,val:=y' })) ∨
  ((Instr.findAsking kt (.agg ⟨a.map real⟩) us i).run P w=.ok none w/\∀ (c:Nat),U8 fz zs (PH es a y) (us++[{ key:=.agg ⟨a.map real⟩,val:=y',born:=c }]))
 | [],us,i,h=>by
  simp only [U8] at h
  subst h
  refine .inr ⟨by rfl,fun c=>?_⟩
  exact⟨_,_,rfl,⟨ha,rfl⟩,hy,rfl⟩
 | (k,z)::r,us,i,h=>by
  simp only [U8] at h
  obtain⟨e,Rk,rfl,⟨h1,h2⟩,h3,h4⟩:=h
  have ih:=TT (w:=w) hk hz ha hy (i+1) h4
  obtain⟨b,hb,Jn⟩:=mK (P:=P) (w:=w) 9 kt a k (H7 9 kt zs a hz ha) (Fu (Ga ha) h1) 9991
  rw [aER hk,aER hk] at hb
  have hb:(Op.equal kt (.agg ⟨a.map real⟩) e.key).run P w=.ok b w:=by rw [h2];exact hb
  by_cases e1:a=k
  ·have uC:b=true:=Jn.2 e1
   subst uC
   have e2:PH ((k,z)::r) a y=(k,y)::r:=by rw [PH,qM e1]
   rw [e2]
   refine .inl ⟨0,e.val,by simp [Instr.findAsking,hb],⟨e,rfl,by rw [h2,e1]⟩,?_⟩
   exact⟨_,_,rfl,⟨h1,by rw [e1]⟩,hy,h4⟩
  ·have hbf:b=false:=by
    cases b with
    | false=>rfl
    | true=>simp_all
   subst hbf
   have e2:PH ((k,z)::r) a y=(k,z)::PH r a y:=by rw [PH,qG e1]
   rw [e2]
   have LJ:(Instr.findAsking kt (.agg ⟨a.map real⟩) (e::Rk) i).run P w=(Instr.findAsking kt (.agg ⟨a.map real⟩) Rk (i+1)).run P w:=by
    simp only [Instr.findAsking,Sem.run_bind,hb,Result.andThen_ok]
    simp
   rw [LJ]
   rcases ih with ⟨j,v,g1,⟨e',g2,g3⟩,g4⟩ | ⟨g1,g2⟩
   ·refine .inl ⟨j+1,v,by grind,⟨e',MJ6,g3⟩,?_⟩
    rw [List.modify_succ_cons]
    exact⟨_,_,rfl,⟨h1,h2⟩,h3,g4⟩
   ·exact .inr ⟨g1,fun c=>⟨_,_,rfl,⟨h1,h2⟩,h3,g2 c⟩⟩
theorem mM {z x:PV} (h:sameKind z x=true) (n:Nat):Instr.sameBits n (real x) (real x)=true:=by
 unfold sameKind at h
 grind [real,Instr.sameBits,bytes_beq]
theorem RL:∀ (xs zs:List PV),Aw zs xs=true->∀ n,((xs.map real).zip (xs.map real)).all (fun (x,y)=>Instr.sameBits n x y)=true
 | [],_,_,_=>rfl
 | x::xs,[],h,_=>by trivial
 | x::xs,z::zs,h,n=>by
  simp only [Aw,qC] at h
  have ih:=RL xs zs h.2 n
  grind [mM]
theorem dD (h:R C Γ H w) {t:TypeId} {m x:AV} {cs:List PV} {m' k' x':Value} {K:KH} (hm:VR Γ m m') (hk:VR Γ (.p (.agg cs)) k') (hx:VR Γ x x') (hv:Po C t m cs x H K) :
  ∃ w',(Instr.mapUpdate t m' k' x').run C.P w=.ok () w'/\∃ v H' BU,K v H'/\v=Bv/\Au C H.next Γ H w BU H' w':=by
 unfold Po at hv
 split at hv <;> try exact hv.elim
 rename_i zk n hzk
 obtain⟨hfo,fs,y,hmk,Js,hv⟩:=hv
 obtain⟨kt,e,fls,hu,uB,U9⟩:=aEP hzk hfo
 obtain⟨Cq,e1,hL⟩:=h.mark hmk
 have hle:=hL.le h
 have hy:VP Cq.fz y x':=by
  have:=Dj hL.1 5 _ _ _ (show GH (H.TA fs).l 5 x y from Js) (EF hle _ _ hx)
  simpa only [VR] using this
 split at hv <;> try exact hv.elim
 rename_i o ho
 split at hv <;> try exact hv.elim
 rename_i zs es hc
 obtain⟨V6,es',rfl,hv⟩:=hv
 simp only [qC] at V6
 simp only [VR,VP] at hk
 obtain⟨Dt,rfl,JM⟩:=hk
 have uD:=(IY (Fu (Ga V6.2) V6.2) JM JM).1
 obtain⟨lcs⟩:=Dt
 simp only at uD
 subst uD
 have V7:=EF hle _ _ hm
 simp only [VR] at V7
 obtain⟨q,hq,rfl⟩:=V7
 obtain⟨q',Gp,Em⟩:=hL.1.Dz n o ho
 rw [hq] at Gp
 injection Gp with e'
 subst e'
 obtain⟨t0,fr0,c0⟩:=o
 simp only at hc
 subst hc
 simp only [Cv] at Em
 obtain⟨BF,Ea,us,kk,Em,U6⟩:=Em
 subst Ea
 have Qd:=H7 9 kt zk zs U9 V6.1
 have hS:=TT (P:=C.P) (w:=w) (a:=cs) uB Qd V6.2 hy 0 U6
 have hck:∀ b,(Instr.checkKey b 10000 kt (.agg ⟨cs.map real⟩)).run C.P w=.ok () w:=fun b=>by
  have:=Y0 (P:=C.P) (w:=w) (b:=b) 9 kt cs (H7 9 kt zs cs Qd V6.2) 9991
  grind [aER]
 have hfk:=TV (P:=C.P) (w:=w) uB ⟨cs.map real⟩ us.toList
 rcases hS with ⟨j,v,hj,⟨e2,g2,g3⟩,g4⟩ | ⟨hj,g4⟩
 ·rw [hj,ql] at hfk
  have g2':us[j]?=some e2:=by rw [<- kJ];exact g2
  have h5:(Instr.keyThatStays (.agg ⟨cs.map real⟩) (.agg ⟨cs.map real⟩)).run C.P w=.ok (.agg ⟨cs.map real⟩) w:=by
   have hb:Instr.sameBits 10000 (.agg ⟨cs.map real⟩) (.agg ⟨cs.map real⟩)=true:=by
    rw [show(10000:Nat)=9999+1 from rfl]
    unfold Instr.sameBits
    simp only [qC,beq_self_eq_true,zL]
    exact RL cs zs V6.2 9999
   simp [Instr.keyThatStays,hb]
  have Ob:=hL.1.bY ho rfl hq BF (o':=⟨t0,false, .mk zs (PH es cs y)⟩) rfl (x:=.map (us.modify j fun e=>{ e with key:=.agg ⟨cs.map real⟩,val:=x' }) kk) (by
   simp only [Cv]
   refine MLG ?_
   simp_all)
  refine⟨_,?_,Bv,_,_,hv,rfl,hL.trans Ob⟩
  simp [Instr.mapUpdate,run_underlying hu,D9 Em rfl,hck,hfk,g2',g3,h5,Jf Em rfl]
 ·rw [hj] at hfk
  have Ob:=hL.1.bY ho rfl hq BF (o':=⟨t0,false, .mk zs (PH es cs y)⟩) rfl (x:=.map (us.push { key:=.agg ⟨cs.map real⟩,val:=x',born:=kk }) (kk+1)) (by
   simp only [Cv]
   refine MLG ?_
   simp_all)
  refine⟨_,?_,Bv,_,_,hv,rfl,hL.trans Ob⟩
  simp [Instr.mapUpdate,run_underlying hu,D9 Em rfl,hck,hfk,Jf Em rfl]
theorem TY (h:R C Γ H w) {t:TypeId} {m k x:AV} {m' k' x':Value} {K:KH} (hm:VR Γ m m') (hk:VR Γ k k') (hx:VR Γ x x') (hv:Qf C t m k x H K) :
  ∃ w',(Instr.mapUpdate t m' k' x').run C.P w=.ok () w'/\∃ v H' BU,K v H'/\v=Bv/\Au C H.next Γ H w BU H' w':=by
 unfold Qf at hv
 grind [dD,dC]
theorem uE (h:R C Γ H w) {t:TypeId} {x:AV} {x':Value} {K:KH} (hx:VR Γ x x') (hv:Y2 C t x H K):∃ v' w',(Instr.range t x').run C.P w=.ok v' w'/\NV C Γ H w K v' w':=by
 unfold Y2 at hv
 split at hv <;> try exact hv.elim
 rename_i s hu
 have hx:x'=.string ⟨⟨s⟩⟩:=by simpa only [VR,VP] using hx
 subst hx
 have hL:=h.push (ob:=.stringIter ⟨⟨s⟩⟩ 0) (q:=⟨w.heap.size,0,0,false⟩) (o:=⟨t,false, .it s 0⟩) rfl rfl rfl MIB
 refine⟨.pointer (some ⟨w.heap.size,0,none⟩),_,?_,_,_,_,hv,?_,hL⟩
 ·simp [Instr.range,run_underlying hu]
 ·simp only [VR]
  exact⟨_,Gm.Bq _ _ _,rfl,by simp⟩
theorem aA3 (h:R C Γ H w) {ty:TypeId} {x:AV} {x':Value} {b:Bool} {K:KH} (hx:VR Γ x x') (hv:uF x b H K):∃ v' w',(Instr.next x' b ty).run C.P w=.ok v' w'/\NV C Γ H w K v' w':=by
 unfold uF at hv
 split at hv <;> try exact hv.elim
 rename_i n
 split at hv <;> try exact hv.elim
 rename_i o ho
 split at hv <;> try exact hv.elim
 rename_i s i hc
 simp only [VR] at hx
 obtain⟨q,hq,BF,rfl⟩:=hx
 obtain⟨q',Gp,Em⟩:=h.Dz n o ho
 rw [hq] at Gp
 injection Gp with e'
 subst e'
 obtain⟨t0,fr0,c0⟩:=o
 simp only at hc
 subst hc
 simp only [Cv] at Em
 obtain⟨_,Ea,Em⟩:=Em
 subst Ea
 have hsz:(⟨⟨s⟩⟩:ByteArray).size=s.length:=rfl
 rcases xB i s.length with hi | hi
 ·obtain⟨c,d,hd,hk⟩:=hv.2 hi
  have Ob:=h.bY ho rfl hq BF (o':=⟨t0,false, .it s (i+d)⟩) rfl (x:=.stringIter ⟨⟨s⟩⟩ (i+d)) (by
   simp only [Cv]
   exact⟨BF,trivial,D5 Em⟩)
  refine⟨.tuple #[.bool true,goInt i, .int .i32 c],_,?_,_,_,_,hk,?_,Ob⟩
  ·simp [Instr.next,D9 Em rfl,hsz,hi,hd,Jf Em rfl]
  ·simp only [VR,CX,VP]
   exact MIf
 ·refine⟨.tuple #[.bool false],w,?_,_,_,_,hv.1 hi,?_,Au.refl h _ (qN _)⟩
  ·simp [Instr.next,D9 Em rfl,hsz,Nat.not_lt.2 hi]
  ·simp only [VR,CX,VP]
   simp_all
theorem aGn {t:TypeId} {z:PV} (hz:zeroOf C.P t=some z) (hp:pl (.p z)=true) (hl:(BI (.p z)).length=1) (w:World):∃ z',(zeroValue t).run C.P w=.ok z' w/\z'.cells.toList=[z']/\∀ Γ:Gm,VR Γ (.p z) z':=by
 obtain⟨z',h1,h2⟩:=Kh hz w ⟨fun _=>none,fun _=>none⟩
 obtain⟨i,z2,h3,h4,h5⟩:=VA hz
 refine⟨z',h1,?_,fun Γ=>?_⟩
 ·rw [H8]
  cases z' <;> first | rfl | skip
  rename_i cs
  simp only [VR] at h2
  obtain⟨l,rfl⟩:=fJ h2
  simp [pl] at hp
 ·obtain⟨z3,h6,h7⟩:=Kh hz w Γ
  simp_all
theorem aCT {α:Type} (x:α):∀ n:Nat,Qg n [x]=List.replicate n x
 | 0=>rfl
 | n+1=>by rw [Qg,aCT x n,xk];rfl
theorem aCU {Γ:Gm} {x:PV} {v:Value} (h:VR Γ (.p x) v):∀ n:Nat,CX Γ (List.replicate n (.p x)) (List.replicate n v)
 | 0=>by simp [CX]
 | n+1=>by
  rw [xk,xk]
  simp only [CX]
  exact⟨_,_,rfl,h,aCU h n⟩
theorem uG (h:R C Γ H w) {t ty:TypeId} {x:AV} {x':Value} (hx:VR Γ x x') {K:KH} (hv:Y3 C t x H K) :
  ∃ v' w',(Builtin.clear_ #[t] ty #[x']).run C.P w=.ok v' w'/\NV C Γ H w K v' w':=by
 unfold Y3 at hv
 split at hv <;> try exact hv.elim
 rename_i e hu
 split at hv <;> try exact hv.elim
 rename_i s z hs hz
 split at hv <;> try exact hv.elim
 rename_i n s' off len hb
 simp only [qC] at hb
 obtain⟨⟨b1,b2⟩,b3⟩:=hb
 have b1:=qI b1
 have b3:=qI b3
 subst b1
 split at hv <;> try exact hv.elim
 rename_i o hs' ho
 have hs':=qI hs'
 subst hs'
 split at hv <;> try exact hv.elim
 rename_i Ea
 split at hv <;> try exact hv.elim
 rename_i xs Uj
 obtain⟨hle,ys,rfl,hK⟩:=hv
 simp only [VR] at hx
 obtain⟨q,hq,dE,Ta⟩:=hx
 have nothing:len=0->K Bv H:=by
  intro h0
  subst h0
  have e0:({ o with c:=.pu (Fv xs off (List.replicate 0 z)) }:Ag)=o:=by
   cases o;simp only at Uj;subst Uj;simp [aCV]
  rw [e0,VB ho] at hK
  exact hK
 have hU:∀ Γ:Gm,VR Γ Bv (.tuple #[]):=fun Γ=>MKq
 rcases Ta with ⟨BF,rfl,rfl,rfl⟩ | ⟨BF,htc,o',rfl,Yu⟩
 ·exact MFA
 ·rcases kS len with h0 | h0
  ·subst h0
   exact MFA
  ·have Ws:o'=off:=by
    rcases Yu with e' | e'
    ·simp_all
    ·omega
   subst Ws
   obtain⟨z',hz1,hz2,hz3⟩:=aGn hz b2 b3 w
   have Y4:BV o.c=true:=MIh
   have hzl:(Builtin.zeroCells z'.cells len).toList=List.replicate len z':=by rw [RN,hz2,aCT]
   obtain⟨w',h1,h2⟩:=VC h (k:=o') (vs:=List.replicate len (.p z)) (vs':=List.replicate len z') (c':=.pu (Fv xs o' (List.replicate len z))) ho Ea Y4 hq BF MLC (aCU (hz3 Γ) len)
    (fun v hv=>by
     rw [(vR.1 hv).2]
     exact uH (hz3 Γ) b2)
    rfl (by rw [Uj];simp only [flat];rw [aCW,kZ]) MDL
   refine⟨.tuple #[],w',?_,Bv,_,Γ,hK,hU _,h2⟩
   obtain⟨n1,rfl⟩:∃ n1,len=n1+1:=⟨len - 1,by omega⟩
   simp [Builtin.clear_,run_underlying hu,hz1,hzl,h1]
theorem fG {ro:Option Nat} {rd:Bool} {o:Oper} {K:AV->List AD->Hp->Prop} {X:List AP->Hp->Prop} {next:Act->World->Prop} {Q:Exit->Act->World->Prop}
  (h:R C Γ H w) (hS:SR df0 Γ σ ds N a) (Wq:rd=ro.isSome) (hC:aQv C df0 Γ H w a o.dst K X next Q) (hv:Wu C rd o σ ds H K X):o.wpIn (Fz ro) 0 C.P a w next Q:=by
 refine⟨fun _ _=>trivial,?_⟩
 have Fa:=NQ h hS
 have hde:∀ {BU},Γ.le BU->Uh df0 BU ds a.defers:=fun hb=>Kg hb hS.df
 -- an operation that aR6 a value
 have Q8:∀ {v':Value} {w':World},(o.semAt ro a.eval).run C.P w=.ok (.value v') w'->NV C Γ H w (fun v H'=>K v ds H') v' w' ->
   o.uponIn (Fz ro) 0 C.P a next Q ((o.semAt (Fz ro).round a.eval).run C.P w):=by
  rintro v' w' hr ⟨v,H',BU,h1,h2,h3⟩
  show o.uponIn (Fz ro) 0 C.P a next Q ((o.semAt ro a.eval).run C.P w)
  rw [hr]
  exact hC.k v ds H' BU v' a.defers w' h1 h2 (hde (h3.le h)) h3
 have Jg:(∀ c,o.op ≠ .defer c)->o.semAt ro a.eval=execOp a.eval o:=Oper.semAt_eq ro a.eval o
 -- behind a call
 have uI:∀ e' w',Fs C Γ H w (onE (fun v H'=>K v ds H') X) e' w' ->
   (match e',w' with | .returned v,w''=>next (a.put o.dst v) w'' | .panicked chain,w''=>Q (.panic chain) a w'' | .outgrown,_=>LetsOut Q):=by
  rintro e' w' ⟨e0,H',BU,k1,k2,hL⟩
  cases e0 with
  | returned v=>obtain⟨v',rfl,hvv⟩:=k2;exact hC.k v ds H' BU v' a.defers w' k1 hvv (hde (hL.le h)) hL
  | panicked ch=>obtain⟨Gz,rfl,hvv⟩:=k2;exact hC.x ch H' BU Gz w' k1 hvv hL
 unfold Wu at hv
 split at hv
 ·rename_i t e
  have hx:=Jg MC7
  obtain⟨v',w',h1,h2⟩:=uJ h hv
  exact MCs
 ·rename_i t x e
  have hx:=Jg MC7
  obtain⟨v',w',h1,h2⟩:=aES h (Fa x) hv
  exact MCs
 ·rename_i t x y e
  have hx:=Jg MC7
  obtain⟨w',h1,v,H',BU,k1,k2,k3⟩:=uK h (Fa x) (Fa y) hv
  show o.uponIn (Fz ro) 0 C.P a next Q ((o.semAt ro a.eval).run C.P w)
  rw [hx]
  have:(execOp a.eval o).run C.P w=.ok .skip w':=by simp [execOp,e,h1]
  rw [this]
  exact hC.k v ds H' BU undef a.defers w' k1 k2 (hde (k3.le h)) k3
 ·rename_i t n parts e
  have hx:=Jg MC7
  obtain⟨v',w',h1,h2⟩:=NU h Fa hv
  exact MCs
 ·rename_i t l c e
  have hx:=Jg MC7
  obtain⟨v',w',h1,h2⟩:=Wv h (Fa l) (Fa c) hv
  exact MCs
 ·rename_i f args argTypes e
  have hx:=Jg MC7
  have hf:=Fa f
  split at hv <;> try exact hv.elim
  ·rename_i g first cap ef
   obtain⟨fn',Ec,FZ,ef',Ea,Rw,hcap⟩:=Kc hf ef
   simp only [FR] at Ea
   subst Ea
   have Yo:CX Γ (first++args.toList.map (Ci C σ)++cap) (Ec++args.map a.eval++FZ).toList:=by
    simp only [xh,xx]
    exact GY (GY Rw (J8 Fa _)) hcap
   have DY:(⟨(Ec++args.map a.eval++FZ).toList⟩:Array Value)=Ec++args.map a.eval++FZ:=by simp
   have uL:(execOp a.eval o).run C.P w=(callFunc g (Ec++args.map a.eval++FZ)).run C.P w:=by
    simp [execOp,e,resolve,ef',Deferred.ofValue,invoke]
   show o.uponIn (Fz ro) 0 C.P a next Q ((o.semAt ro a.eval).run C.P w)
   rw [hx,uL]
   rcases hv Γ w _ h Yo with ⟨h1,h2⟩ | ⟨v',w',h1,h2⟩
   ·rw [DY] at h1 h2
    rw [h1]
    exact⟨fun hd=>by simp [Fz,Fence.wide] at hd,Yq (h2.mono uI)⟩
   ·rw [DY] at h1
    rw [h1]
    exact uI _ _ h2
  ·rename_i L ef
   obtain⟨fn',Ec,FZ,ef',Ea,Rw,hcap⟩:=Kc hf ef
   simp only [FR] at Ea
   obtain⟨q,hq,rfl⟩:=Ea
   simp only [CX] at Rw hcap
   have dF:Ec=#[]:=vK (by simpa using Rw)
   have hc0:FZ=#[]:=vK (by simpa using hcap)
   subst dF;subst hc0
   have Yo:CX Γ (args.toList.map (Ci C σ)) (args.map a.eval).toList:=by
    rw [xx]
    exact J8 Fa _
   obtain⟨q',f',tmps,Fq,bd,Gp,hy,hr⟩:=hv Γ w _ ro h Yo
   rw [hq] at Gp
   injection Gp with e'
   subst e'
   have DY:(⟨(args.map a.eval).toList⟩:Array Value)=args.map a.eval:=rfl
   rw [DY] at hy
   have uL:(execOp a.eval o).run C.P w=.ok (.round q.blk f' tmps Fq bd) w:=by
    simp [execOp,e,resolve,ef',Deferred.ofValue,invoke,hy]
   show o.uponIn (Fz ro) 0 C.P a next Q ((o.semAt ro a.eval).run C.P w)
   rw [hx,uL]
   exact⟨fun hd=>MDL,hr.mono uI⟩
 ·rename_i r name args argTypes e
  have hx:=Jg MC7
  have hr:=Fa r
  split at hv <;> try exact hv.elim
  rename_i t v ei
  obtain⟨v',Nz,hvv⟩:=(JO hr).2 _ _ ei
  obtain⟨g,k,u,hm,hu,hH⟩:=hv
  obtain⟨u',hru,hvu⟩:=aEO h hm hvv hu
  have Yo:CX Γ (u::args.toList.map (Ci C σ)) (#[u']++args.map a.eval).toList:=by
   simp only [xh,xx,CX]
   exact⟨u',_,rfl,hvu,J8 Fa _⟩
  have DY:(⟨(#[u']++args.map a.eval).toList⟩:Array Value)=#[u']++args.map a.eval:=by simp
  have uL:(execOp a.eval o).run C.P w=(callFunc g (#[u']++args.map a.eval)).run C.P w:=by
   have aQw:=hru (C.P.types.size+99)
   have e1:(#[a.eval r]++args.map a.eval)[0]?=some (.iface t v'):=by rw [Nz,zg (Nat.zero_lt_one)];rfl
   have e2:(#[a.eval r]++args.map a.eval).extract 1 (#[a.eval r]++args.map a.eval).size=args.map a.eval:=by
    apply vK
    rw [Array.toList_extract,zi,xh,Array.size_append]
    exact kX MBV
   simp only [execOp,e,resolve,pure_bind,invoke,e1,e2,callMethod]
   rw [Sem.run_bind]
   have e3:(program:Sem Program).run C.P w=.ok C.P w:=rfl
   rw [e3]
   simp only [Result.andThen_ok]
   rw [show C.P.types.size+Made.depth=C.P.types.size+99+1 from rfl,Sem.run_bind,aQw]
   rfl
  show o.uponIn (Fz ro) 0 C.P a next Q ((o.semAt ro a.eval).run C.P w)
  rw [hx,uL]
  rcases hH Γ w _ h Yo with ⟨h1,h2⟩ | ⟨v',w',h1,h2⟩
  ·rw [DY] at h1 h2
   rw [h1]
   exact⟨fun hd=>MDL,Yq (h2.mono uI)⟩
  ·rw [DY] at h1
   rw [h1]
   exact uI _ _ h2
 ·rename_i args argTypes e
  have hx:=Jg MC7
  obtain⟨args⟩:=args
  obtain⟨argTypes⟩:=argTypes
  simp only at hv
  split at hv <;> try exact hv.elim
  rename_i s x t t'
  split at hv <;> try exact hv.elim
  rename_i hni
  obtain⟨v',w',h1,h2⟩:=mO (ty:=o.type) h (Fa s) (Fa x) hni hv
  exact MCz
 ·rename_i args argTypes e
  have hx:=Jg MC7
  obtain⟨args⟩:=args
  obtain⟨argTypes⟩:=argTypes
  simp only at hv
  split at hv <;> try exact hv.elim
  rename_i s x t t'
  obtain⟨v',w',h1,h2⟩:=aA4 (t':=t') (ty:=o.type) h (Fa s) (Fa x) hv
  exact MCz
 ·rename_i args argTypes e
  have hx:=Jg MC7
  obtain⟨args⟩:=args
  obtain⟨argTypes⟩:=argTypes
  simp only at hv
  split at hv <;> try exact hv.elim
  rename_i x t
  obtain⟨v',w',h1,h2⟩:=uG (ty:=o.type) h (Fa x) hv
  exact MCz
 ·rename_i args argTypes e
  have hx:=Jg MC7
  obtain⟨args⟩:=args
  obtain⟨argTypes⟩:=argTypes
  simp only at hv
  split at hv <;> try exact hv.elim
  rename_i x
  obtain⟨v',w',h1,h2⟩:=aA5 (ts:=⟨argTypes⟩) h (Fa x) hv
  exact MCz
 ·rename_i args argTypes e
  have hx:=Jg MC7
  obtain⟨args⟩:=args
  obtain⟨argTypes⟩:=argTypes
  simp only at hv
  split at hv <;> try exact hv.elim
  rename_i x y t t'
  obtain⟨v',w',h1,h2⟩:=aA6 (t':=t') (ty:=o.type) h (Fa x) (Fa y) hv
  exact MCz
 ·rename_i sc dc x e
  have hx:=Jg MC7
  split at hv
  ·rename_i el hd
   obtain⟨v',w',h1,h2⟩:=uM (d:=dc) h hd (Fa x) hv
   exact MCs
  ·exact MED
 ·rename_i f args argTypes e
  have hf:=Fa f
  split at hv <;> try exact hv.elim
  rename_i g first cap ef
  obtain⟨fn',Ec,FZ,ef',Ea,Rw,hcap⟩:=Kc hf ef
  simp only [FR] at Ea
  subst Ea
  have PO:ro=none:=by
   cases ro with
   | none=>rfl
   | some l=>simp at Wq
  subst PO
  show o.uponIn (Fz none) 0 C.P a next Q ((execOp a.eval o).run C.P w)
  have:(execOp a.eval o).run C.P w=.ok (.defer { target:=.fn (.func g) FZ,args:=Ec++args.map a.eval }) w:=by
   simp [execOp,e,resolve,ef',Deferred.ofValue]
  rw [this]
  refine hC.k Bv _ H Γ undef _ w hv (IQ Γ) ?_ (Au.refl h _ (qN _))
  simp only [Uh]
  refine⟨_,_,rfl,?_,hS.df⟩
  simp only [DR]
  refine⟨FZ,Ec++args.map a.eval,rfl,hcap,?_⟩
  simp only [xh,xx]
  grind [GY,J8]
 ·rename_i x e
  have hx:=Jg MC7
  have hxx:=Fa x
  unfold aA7 at hv
  split at hv <;> try exact hv.elim
  rename_i tv ex
  obtain⟨t,u⟩:=tv
  show o.uponIn (Fz ro) 0 C.P a next Q ((o.semAt ro a.eval).run C.P w)
  rw [hx]
  obtain⟨u',eu,_⟩:=(JO hxx).2 _ _ ex
  have:(execOp a.eval o).run C.P w=.halt (.panic (.iface t u')) w:=by
   simp [execOp,e,eu,Instr.panic,goPanic,Sem.run]
  rw [this]
  rw [eu] at hxx
  exact hC.x _ H Γ _ w hv (aA0 hxx) (Au.refl h _ (qN _))
 ·rename_i t e
  have hx:=Jg MC7
  obtain⟨v',w',h1,h2⟩:=dB h hv
  exact MCs
 ·exact MCN
 ·exact MCN
 ·rename_i t x e
  have hx:=Jg MC7
  obtain⟨v',w',h1,h2⟩:=uE h (Fa x) hv
  exact MCs
 ·rename_i x b e
  have hx:=Jg MC7
  obtain⟨v',w',h1,h2⟩:=aA3 (ty:=o.type) h (Fa x) hv
  exact MCs
 ·rename_i bop t x y c e
  have hx:=Jg MC7
  split at hv
  ·rename_i neg b p hq
   obtain⟨v',w',h1,h2⟩:=aEN (X:=x) (Y:=y) h (Fa x) (Fa y) hq hv
   grind [execOp,aGl]
  ·exact MED
 ·rename_i op ES
  obtain⟨v,hy,hk⟩:=Ba.YY hv
  obtain⟨v',h1,h2⟩:=KE h Fa o hy
  have hx:=Jg (by
   intro c hc
   rw [hc] at hy
   trivial)
  exact Q8 (by rw [hx];exact h1) ⟨v,H,Γ,hk,h2,Au.refl h _ (qN _)⟩
theorem LQ (l:List Oper) (n:Nat):Du l n=l[n]?:=by
 induction l generalizing n with
 | nil=>rfl
 | cons x l ih=>cases n with
  | zero=>rfl
  | succ n=>grind [Du]
theorem JY (hS:SR df0 Γ σ ds N a) {ops:Array Oper} {o:Oper} {b:Bool} (h:gd ops.toList o σ=some b):Region.wanted o (yielded ops a.tmps)=b:=by
 unfold gd at h
 unfold Region.wanted
 split at h
 ·simp_all
 ·rename_i j want e
  rw [e]
  simp only
  split at h <;> try (cases h;done)
  rename_i oj hj
  rw [LQ,kJ] at hj
  split at h <;> try (cases h;done)
  rename_i d hd
  have ht:=hS.tm d
  unfold yielded
  rw [hj]
  simp only [Option.bind_some,hd]
  split at h
  ·rename_i c ec
   rw [ec] at ht
   have ht:=Qe ht
   injection h with h
   rw [kN] at ht
   cases hg:a.tmps[d]? with
   | none=>grind [undef]
   | some v=>
    simp_all
  ·rename_i vs ec
   rw [ec] at ht
   injection h with h
   subst h
   simp only [VR] at ht
   obtain⟨vs',ht,_⟩:=ht
   rw [kN] at ht
   grind
  ·cases h
theorem Uy {N:Nat} {d:Nat} {σ:Sg} {v:AV} {K:Sg->Prop} (h:Rs N (some d) σ v K):d<N/\K (bI σ d v):=by
 simp only [Rs] at h
 split at h
 ·rename_i e;exact⟨MKX,force_eq h⟩
 ·exact h.elim
theorem Yn {ro:Option Nat} {rd:Bool} (Wq:rd=ro.isSome) {ops:Array Oper} {Q:Exit->Act->World->Prop} {n0:Nat}
  {K:Sg->List AD->Hp->Prop} {X:List AP->Sg->List AD->Hp->Prop} :
  ∀ (rest pre:List Oper) (σ:Sg) (ds:List AD) (H:Hp) (Γ:Gm) (a:Act) (w:World),ops.toList=pre++rest->n0<=H.next->R C Γ H w->SR df0 Γ σ ds N a ->
   dG C rd N ops.toList rest σ ds H K X ->
   (∀ σ' CS H' BU a' w',K σ' CS H'->SR df0 BU σ' CS N a'->Au C n0 Γ H w BU H' w'->Q .normal a' w') ->
   (∀ ch σ' CS H' BU Gz a' w',X ch σ' CS H'->Ny BU ch Gz->SR df0 BU σ' CS N a'->Au C n0 Γ H w BU H' w'->Q (.panic Gz) a' w') ->
   wpOpsIn (Fz ro) 0 C.P ops Q (List.range' pre.length rest.length) a w
 | [],pre,σ,ds,H,Γ,a,w,_,hn,hR,hS,hv,hK,_=>by
  simp only [qy,List.range'_zero,wpOpsIn]
  exact hK σ ds H Γ a w hv hS (Au.refl hR n0 hn)
 | o::rest,pre,σ,ds,H,Γ,a,w,aGP,hn,hR,hS,hv,hK,hX=>by
  have hi:ops[pre.length]?=some o:=by
   rw [<- kJ,aGP]
   simp
  simp only [qR,jw,wpOpsIn,hi]
  have ih:=Yn Wq (ops:=ops) (Q:=Q) (n0:=n0) (K:=K) (X:=X) rest (pre++[o])
  simp only [qD,qR,qy,ql] at ih
  have sU:ops.toList=(pre++[o])++rest:=by rw [aGP];simp
  -- behind the operation
  have go:∀ (v:AV) (CS:List AD) (H1:Hp) (Cq:Gm) (v':Value) (mI:List Deferred) (w1:World),
    Rs N o.dst σ v (fun σ'=>dG C rd N ops.toList rest σ' CS H1 K X)->VR Cq v v'->Uh df0 Cq CS mI->Au C H.next Γ H w Cq H1 w1 ->
    wpOpsIn (Fz ro) 0 C.P ops Q (List.range' (pre.length+1) rest.length) (({ a with defers:=mI }:Act).put o.dst v') w1:=by
   intro v CS H1 Cq v' mI w1 hp hvv SL hL
   have hLn:Au C n0 Γ H w Cq H1 w1:=hL.mono hn
   cases hd:o.dst with
   | none=>
    rw [hd] at hp
    refine ih σ CS H1 Cq _ w1 sU (kG hn hL.2.2.1) hL.1 ⟨hS.size,fun t=>EF (hL.le hR) _ _ (hS.tm t),SL⟩ hp (fun σ' aMu H' BU a' w' hk hs hl=>hK _ _ _ _ _ _ hk hs (hLn.trans hl)) (fun ch σ' aMu H' BU Gz a' w' hx hp hs hl=>hX _ _ _ _ _ _ _ _ hx hp hs (hLn.trans hl))
   | some d=>
    rw [hd] at hp
    obtain⟨hdN,hp⟩:=Uy hp
    exact ih (bI σ d v) CS H1 Cq _ w1 sU (kG hn hL.2.2.1) hL.1 (hS.put (hL.le hR) hvv SL hdN) hp (fun σ' aMu H' BU a' w' hk hs hl=>hK _ _ _ _ _ _ hk hs (hLn.trans hl)) (fun ch σ' aMu H' BU Gz a' w' hx hp hs hl=>hX _ _ _ _ _ _ _ _ hx hp hs (hLn.trans hl))
  simp only [fK] at hv
  split at hv
  ·rename_i hg
   rw [JY hS hg]
   simp only [jv]
   exact fG hR hS Wq ⟨fun v CS H' BU v' mI w' hk hvv SL hL=>go v CS H' BU v' mI w' hk hvv SL hL,
    fun ch H' BU Gz w' hx hp hL=>hX ch σ ds H' BU Gz a w' hx hp (hS.mono (hL.le hR)) (hL.mono hn)⟩ hv
  ·rename_i hg
   rw [JY hS hg]
   simp only [qV,jh]
   exact⟨fun _ _=>trivial,go Bv ds H Γ undef a.defers w hv (IQ Γ) hS.df (Au.refl hR _ (qN _))⟩
  ·exact hv.elim
end
end Go.Proofs.YtkegmchjobphdaaGreatDoor.Y
namespace Go.Proofs.YtkegmchjobphdaaGreatDoor.Y
open Go
theorem Dl {n:Nat} {l:List Nat}:D6 n l=true ↔ n∈l:=by
 induction l with
 | nil=>simp [D6]
 | cons m r ih=>
  simp only [D6]
  by_cases e:n=m
  ·subst e;simp
  ·have:Nat.beq n m=false:=by
    cases h:Nat.beq n m
    ·rfl
    ·simp_all
   simp_all
theorem Pj {n:Nat} {l:List Nat}:D6 n l=false ↔ n ∉ l:=by
 rw [<- Dl];simp
inductive Bef (all:List Oper):Nat->Nat->Prop
 | one {i j:Nat} {o:Oper}:Du all i=some o->j∈YQ o->Bef all i j
 | more {i k j:Nat} {o:Oper}:Du all i=some o->k∈YQ o->Bef all k j->Bef all i j
def Clo (all:List Oper) (S:Nat->Bool):Prop:=∀ i o,S i=true->Du all i=some o->∀ d∈YQ o,S d=true
theorem Bef.mem {all:List Oper} {S:Nat->Bool} (hS:Clo all S) {i j:Nat} (h:Bef all i j):(∀ o,Du all i=some o->∀ d∈YQ o,S d=true)->S j=true:=by
 induction h with
 | one h1 h2=>simp_all
 | more h1 h2 _ ih=>exact fun h=>ih fun o ho=>hS _ o (h _ h1 _ h2) ho
theorem tY (a:List Nat) (m i:Nat):Lg (a++[m]) i=if i=a.length then m else Lg a i:=by
 induction a generalizing i with
 | nil=>cases i <;> simp [Lg]
 | cons x r ih=>
  cases i with
  | zero=>simp [Lg]
  | succ i=>simp [Lg,ih]
theorem V4 {acc:List Nat} {j:Nat}:∀ {l:List Nat},(Yx acc l).testBit j=true->∃ d∈l,j=d∨(Lg acc d).testBit j=true
 | [],h=>by simp [Yx] at h
 | d::r,h=>by
  simp only [Yx,zm,kW,zI,qJ] at h
  rcases h with (h | h) | h
  ·exact⟨d,by simp, .inl h.symm⟩
  ·exact⟨d,by simp, .inr h⟩
  ·obtain⟨d',h1,h2⟩:=V4 h
   exact⟨d',qh _ h1,h2⟩
theorem Pk {all:List Oper}:∀ (r pre:List Oper) (acc:List Nat),all=pre++r->acc.length=pre.length->(∀ i j,(Lg acc i).testBit j=true->Bef all i j)->∀ i j,(Lg (Cr r acc) i).testBit j=true->Bef all i j
 | [],_,_,_,_,h,i,j,hm=>h i j hm
 | o::r,pre,acc,ha,hl,h,i,j,hm=>by
  refine Pk r (pre++[o]) _ (by rw [ha];simp) (by simp [hl]) (fun i j hij=>?_) i j hm
  rw [tY] at hij
  split at hij
  ·rename_i e
   have ho:Du all i=some o:=by rw [LQ,ha,e,hl];simp
   obtain⟨d,h1,rfl | h2⟩:=V4 hij
   ·exact .one ho h1
   ·exact .more ho h1 (h _ _ h2)
  simp_all
theorem JC {f:Nat->Oper->Bool}:∀ {l:List Oper} {k:Nat},Yy f k l=true->∀ {i:Nat} {o:Oper},Du l i=some o->f (k+i) o=true
 | [],_,_,i,o,ho=>by simp [Du] at ho
 | x::l,k,h,i,o,ho=>by
  simp only [Yy,qC] at h
  cases i with
  | zero=>simp only [Du,qo] at ho;subst ho;exact h.1
  | succ i=>
   have:=JC h.2 (i:=i) (o:=o) (by simpa [Du] using ho)
   rwa [show k+1+i=k+(i+1) by omega] at this
def SO (N:Nat) (all:List Oper):Prop:=(∀ j oj d,Du all j=some oj->oj.dst=some d->d<N) /\
 ∀ i j oi oj d,Du all i=some oi->Du all j=some oj->i ≠ j->oj.dst=some d->(d∈looks all oi∨oi.dst=some d)->Bef all i j∨Bef all j i
theorem mF {N:Nat} {all:List Oper} (h:FN N all (Cr all [])=true):SO N all:=by
 have hm:∀ i j,(Lg (Cr all []) i).testBit j=true->Bef all i j:=Pk all [] [] rfl rfl (by grind [Lg])
 refine⟨fun j oj d h1 h2=>?_,fun i j oi oj d h1 h2 ES h3 h4=>?_⟩
 ·have:=JC h h1
  simp_all
 ·have:=JC h h2
  simp only [h3,qC] at this
  have:=JC this.2 h1
  simp only [ql,kW,ku,vE] at this
  rcases this with ((h5 | h5) | h5) | h5
  ·simp_all
  ·exfalso
   rcases h4 with h4 | h4
   ·rw [Dl.2 h4] at h5;cases h5.1
   simp_all
  ·simp_all
  simp_all
def dm (L:List En):List Nat:=L.map (·.i)
def tQ (all:List Oper):List En->Prop
 | []=>True
 | e::L=>Du all e.i=some e.o/\(∀ d∈YQ e.o,d∈dm L)/\e.i ∉ dm L/\tQ all L
theorem tQ.tail {all:List Oper} {A B:List En} (h:tQ all (A++B)):tQ all B:=by
 induction A with
 | nil=>exact h
 | cons x r ih=>exact ih h.2.2.2
theorem tQ.aGj {all:List Oper} {A B:List En} (h:tQ all (A++B)) {x:En} (hx:x∈A):x.i ∉ dm B:=by
 induction A with
 | nil=>simp at hx
 | cons y r ih=>
  rcases qw.1 hx with rfl | hx
  ·intro hm
   refine h.2.2.1 ?_
   show x.i∈dm (r++B)
   grind [dm]
  ·exact ih h.2.2.2 hx
theorem tQ.get {all:List Oper} {L:List En} (h:tQ all L) {x:En} (hx:x∈L):Du all x.i=some x.o/\∀ d∈YQ x.o,d∈dm L:=by
 induction L with
 | nil=>simp at hx
 | cons y r ih=>
  rcases qw.1 hx with rfl | hx
  ·exact⟨h.1,fun d hd=>qh _ (h.2.1 d hd)⟩
  ·obtain⟨h1,h2⟩:=ih h.2.2.2 hx
   exact⟨h1,fun d hd=>qh _ (h2 d hd)⟩
theorem tQ.clo {all:List Oper} {L:List En} (h:tQ all L):Clo all (fun i=>D6 i (dm L)):=by
 intro i o hi ho d hd
 obtain⟨x,hx,rfl⟩:=qz.1 (Dl.1 hi)
 obtain⟨h1,h2⟩:=h.get hx
 rw [h1] at ho
 injection ho with ho
 subst ho
 exact Dl.2 (h2 d hd)
theorem mH {σ0:Sg} {t:Nat} {A B:List En} (h:∀ x∈A,x.o.dst ≠ some t):ap σ0 (A++B) t=ap σ0 B t:=by
 induction A with
 | nil=>rfl
 | cons x r ih=>
  simp only [kD,ap]
  have hx:=h x MBV
  have ih:=ih fun y hy=>h y (qh _ hy)
  cases e:x.o.dst with
  | none=>exact ih
  | some d=>
   grind [E9]
theorem aGk {σ0:Sg} {t:Nat} {A B:List En} {e:En} (h:e.o.dst ≠ some t):ap σ0 (A++e::B) t=ap σ0 (A++B) t:=by
 induction A with
 | nil=>
  simp only [kg,ap]
  cases e':e.o.dst with
  | none=>rfl
  | some d=>
   grind [E9]
 | cons x r ih=>
  simp only [kD,ap]
  exact MIz
theorem aEL {σ0:Sg} {t:Nat} {S:Nat->Bool} {L:List En} (h:∀ x∈L,x.o.dst=some t->S x.i=true):ap σ0 (L.filter fun e=>S e.i) t=ap σ0 L t:=by
 induction L with
 | nil=>rfl
 | cons x r ih=>
  have ih:=ih fun y hy=>h y (qh _ hy)
  have hx:=h x MBV
  by_cases hs:S x.i=true
  ·rw [jK (p:=fun e:En=>S e.i) hs]
   simp only [ap]
   exact MIz
  ·rw [xR (p:=fun e:En=>S e.i) hs,ih]
   simp only [ap]
   cases e:x.o.dst with
   | none=>rfl
   | some d=>
    grind [E9]
section
variable {N:Nat} {all:List Oper} {S:Nat->Bool} {L1 L2:List En} {e:En} {σ0:Sg}
theorem tZ (OQ:SO N all) (hl:tQ all (L1++e::L2)) (hS:Clo all S) (he:S e.i=false) {d:Nat} (hd:d∈looks all e.o∨e.o.dst=some d) {x:En} (hx:x∈L1) (hxS:S x.i=true):x.o.dst ≠ some d:=by
 intro hxd
 have hle:=hl.tail
 have hx1:=hl.get (vF _ hx)
 have ES:e.i ≠ x.i:=fun k=>hl.aGj hx MAe
 rcases OQ.2 _ _ _ _ d hle.1 hx1.1 ES hxd hd with h | h
 ·have:=h.mem hle.2.2.2.clo (fun o ho dd SL=>by
   rw [hle.1] at ho;injection ho with ho;subst ho
   exact Dl.2 (hle.2.1 dd SL))
  exact hl.aGj hx (by simp only [dm,kI];exact qh _ (Dl.1 this))
 ·have:=h.mem hS (fun o ho dd SL=>hS _ _ hxS ho dd SL)
  simp_all
theorem view (OQ:SO N all) (hl:tQ all (L1++e::L2)) (hS:Clo all S) (he:S e.i=false) (hd:∀ d∈YQ e.o,S d=true) {t:Nat} (ht:t∈looks all e.o) :
  ap σ0 ((L1++e::L2).filter fun x=>S x.i) t=ap σ0 L2 t:=by
 have hle:=hl.tail
 rw [xC,mH,xR (by rw [he];simp),aEL]
 ·intro x hx hxd
  have hx1:=hle.2.2.2.get hx
  have ES:e.i ≠ x.i:=fun k=>hle.2.2.1 (by rw [k];exact qz.2 MKm)
  rcases OQ.2 _ _ _ _ t hle.1 hx1.1 ES hxd (.inl ht) with h | h
  ·exact h.mem hS (fun o ho dd SL=>by
    rw [hle.1] at ho;simp_all)
  ·have:=h.mem hle.2.2.2.clo (fun o ho dd SL=>by
    rw [hx1.1] at ho;injection ho with ho;subst ho
    exact Dl.2 (hx1.2 dd SL))
   exact absurd (Dl.1 this) hle.2.2.1
 grind [tZ]
theorem Yt (OQ:SO N all) (hl:tQ all (L1++e::L2)) (hS:Clo all S) (he:S e.i=false) {S':Nat->Bool} (hS':∀ i,S' i=(S i || Nat.beq i e.i)) (t:Nat) :
  ap σ0 ((L1++e::L2).filter fun x=>S' x.i) t=(match e.o.dst with | none=>ap σ0 ((L1++e::L2).filter fun x=>S x.i) | some d=>bI (ap σ0 ((L1++e::L2).filter fun x=>S x.i)) d e.v) t:=by
 have hle:=hl.tail
 have f1:∀ (M:List En),(∀ x∈M,x.i ≠ e.i)->M.filter (fun x=>S' x.i)=M.filter fun x=>S x.i:=by
  intro M hM
  apply vY
  intro x hx
  rw [hS']
  have:Nat.beq x.i e.i=false:=by
   cases h:Nat.beq x.i e.i
   ·rfl
   ·simp_all
  simp [this]
 have h1:∀ x∈L1,x.i ≠ e.i:=fun x hx k=>hl.aGj hx (by rw [k];simp [dm])
 have h2:∀ x∈L2,x.i ≠ e.i:=fun x hx k=>hle.2.2.1 (by rw [<- k];exact qz.2 MKm)
 rw [xC,xC,jK (by rw [hS'];simp),xR (by rw [he];simp),f1 _ h1,f1 _ h2]
 cases hd:e.o.dst with
 | none=>grind [aGk]
 | some d=>
  simp only
  by_cases k:t=d
  ·subst k
   rw [Jb,mH]
   ·simp only [ap,hd,Jb]
   grind [tZ]
  grind [E9,aGk]
theorem cZ (h:tQ all L1) (hm:∃ e∈L1,S e.i=false):∃ A e B,L1=A++e::B/\S e.i=false/\∀ x∈B,S x.i=true:=by
 induction L1 with
 | nil=>simp_all
 | cons x r ih=>
  by_cases hr:∃ e∈r,S e.i=false
  ·obtain⟨A,e,B,h1,h2,h3⟩:=ih h.2.2.2 hr
   grind
  ·obtain⟨e,he,hs⟩:=hm
   rcases qw.1 he with rfl | he
   ·refine⟨[],e,r,rfl,hs,fun y hy=>?_⟩
    simp_all
   simp_all
end
end Go.Proofs.YtkegmchjobphdaaGreatDoor.Y
namespace Go.Proofs.YtkegmchjobphdaaGreatDoor.Y
open Go
section
variable {C:Cx}
theorem R.aQt {Γ:Gm} {H:Hp} {w:World} (h:R C Γ H w):R C ⟨fun _=>none,Γ.fz⟩ ⟨0,[]⟩ w:=
 MEt
theorem Yw {Γ:Gm} {n k:Nat} (h:RJ Γ ⟨n,[]⟩ k):False:=by
 obtain⟨n,o,q,h1,_⟩:=h
 simp [Aq] at h1
theorem aEK {Cq:Gm} {H1:Hp} {w:World} (Qa:R C Cq H1 w) {Γd:Gm} {Hd:Hp} {w':World} (Yd:Au C 0 ⟨fun _=>none,Cq.fz⟩ ⟨0,[]⟩ w Γd Hd w'):Au C H1.next Cq H1 w ⟨Cq.nm,Γd.fz⟩ H1 w':=by
 have hT:=Yd.2.2.2
 have KZ:∀ k,k<w.heap.size->w'.heap[k]?=w.heap[k]?:=fun k hk=>hT.kept k hk Yw
 have hle:Cq.le ⟨Cq.nm,Γd.fz⟩:=⟨fun _ _ h=>h,hT.fz⟩
 have aJj:∀ n o,Aq H1.l n=some o->∃ q,(⟨Cq.nm,Γd.fz⟩:Gm).nm n=some q/\Cv C.P ⟨Cq.nm,Γd.fz⟩ w' q o:=by
  intro n o ho
  obtain⟨q,h1,h2⟩:=Qa.Dz n o ho
  exact⟨q,h1,h2.ext hle fun BF=>KZ _ (h2.IP BF)⟩
 have U1:∀ n o q,Aq H1.l n=some o->o.fr=false->Cq.nm n=some q->q.nl=false->Γd.fz q.blk=none:=by
  intro n o q h1 h2 h3 h4
  have h0:=Qa.own n o q h1 h2 h3 h4
  cases hx:Γd.fz q.blk with
  | none=>rfl
  | some a=>
   rcases hT.Lh _ _ hx with h5 | h5 | h5
   ·simp_all
   ·exact MGV
   grind [Yw]
 refine⟨⟨Yd.1.Jq,Qa.fresh,Yd.1.Io,aJj,U1,Qa.apart⟩,fun _ _=>rfl,qN _,?_⟩
 refine⟨hT.os,hT.tape,hT.output,hT.size,fun k hk _=>KZ k hk,fun k hk=>.inr hk,hT.fz,fun k a hk=>?_⟩
 rcases hT.Lh k a hk with h5 | h5 | h5
 ·exact .inl h5
 ·omega
 grind [Yw]
theorem aJn {Γ:Gm} {nm:Nat->Option Pl} {v:AV} {v':Value} (h:VR Γ v v'):VR ⟨nm,Γ.fz⟩ (aGh v) v':=by
 cases v with
 | p x=>trivial
 | _=>exact XY _ _
theorem fH {α:Type} {s:Nat}:∀ {l:List (List α)},(∀ c∈l,c.length=s)->l.flatten.length=l.length * s
 | [],_=>by simp
 | c::l,h=>by
  rw [xI,qD,h c (kC ..),fH fun x hx=>h x (qh _ hx),qR,jm];omega
theorem aAz {Γ:Gm} {H:Hp} {w:World} (h:R C Γ H w) {ev:Operand->AV} {Nz:Operand->Value} (Fa:∀ x,VR Γ (ev x) (Nz x)) {t:TypeId} {n:Nat} {parts:Array (Nat × Operand)} {v:AV} (hv:(aGi C t n parts.toList ev).EW v) :
  ∃ v' w' BU,(Instr.buildSlice t n (parts.map fun p=>(p.1,Nz p.2))).run C.P w=.ok v' w'/\VR BU v v'/\Au C H.next Γ H w BU H w':=by
 have aQu:∀ x,VR ⟨fun _=>none,Γ.fz⟩ (aGh (ev x)) (Nz x):=fun x=>aJn (Fa x)
 have key:∃ (s:Nat) (e:TypeId) (c:Cn) (x:PV),v=.p x/\BV c=true/\GH [(0,⟨e,true,c⟩)] 1 (.sl 0 s 0 n) x/\Pm C t n parts.toList (fun x=>aGh (ev x)) ⟨0,[]⟩ fun v0 H'=>v0=.sl 0 s 0 n/\H'=⟨1,[(0,⟨e,false,c⟩)]⟩:=by
  unfold aGi at hv
  split at hv <;> try exact hv.elim
  rename_i e hu
  split at hv <;> try exact hv.elim
  rename_i s z hs hz
  split at hv <;> try exact hv.elim
  rename_i hc
  split at hv <;> try exact hv.elim
  rename_i cs hb
  have IL:cs.length=n * s:=by
   simp only [qC] at hc
   rw [Rx hb,JD,qI hc.1.1.2]
  have h3:0<s:=by
   simp only [qC] at hc
   simpa using hc.1.2
  split at hv <;> try exact hv.elim
  ·rename_i xs II hcn
   obtain⟨c1,c2,c3⟩:=U7 hcn IL
   have hv:v=.p (.Dh xs):=hv
   have O0:s=1:=c3 0
   have hl:xs.length=n:=by
    have:=qH List.length c2
    simp only [flat,qB] at this
    rw [IL,O0,jX] at this
    exact this
   refine⟨s,e, .pu xs, .Dh xs,hv,rfl,?_,?_⟩
   ·simp only [GH,Aq]
    grind
   ·unfold Pm
    simp only [hu,hs,hz,hc,hb,II,hcn]
    trivial
  ·rename_i xss II hcn
   obtain⟨c1,c2,c3⟩:=U7 hcn IL
   have hv:v=.p (.Ai s xss):=hv
   have O0:∀ c∈xss,c.length=s:=c3 0
   have hl:xss.length=n:=by
    have:=qH List.length c2
    simp only [flat,qB] at this
    rw [fH O0,IL] at this
    exact Nat.eq_of_mul_eq_mul_right h3 this
   refine⟨s,e, .GN xss, .Ai s xss,hv,rfl,?_,?_⟩
   ·simp only [GH,Aq]
    grind
   ·unfold Pm
    simp only [hu,hs,hz,hc,hb,II,hcn]
    trivial
 obtain⟨s,e,c,x,rfl,hc,Js,hb⟩:=key
 obtain⟨v',w',h1,v0,H',BU,⟨rfl,rfl⟩,h2,h3⟩:=NU h.aQt aQu hb
 obtain⟨Γd,e2,su⟩:=h3.1.mark (fs:=[0]) (by simp [CV,Aq,hc])
 have Yd:=h3.trans (su.mono (qL _))
 have h2':=EF (su.le h3.1) _ _ h2
 refine⟨v',w',_,h1,?_,aEK h Yd⟩
 simp only [VR]
 exact Dj su.1 1 _ _ _ Js h2'
end
end Go.Proofs.YtkegmchjobphdaaGreatDoor.Y
namespace Go.Proofs.YtkegmchjobphdaaGreatDoor.Y
open Go
section
variable {C:Cx} {df0:Option (List Deferred)}
structure DI (C:Cx) (df0:Option (List Deferred)) (N:Nat) (all:List Oper) (σ0:Sg) (S:Nat->Bool) (L:List En) (ds:List AD) (Γ:Gm) (H:Hp) (a:Act) (w:World):Prop where
 lok:tQ all L
 clo:Clo all S
 sub:∀ i,S i=true->i∈dm L
 syn:∀ e∈L,e.sy=true->S e.i=true
 r:R C Γ H w
 sr:SR df0 Γ (ap σ0 (L.filter fun e=>S e.i)) ds N a
 held:∀ L1 e L2,L=L1++e::L2->e.sy=false->S e.i=false->IX C all σ0 H e L2
theorem R.bare {Γ:Gm} {H:Hp} {w:World} (h:R C Γ H w):R C Γ ⟨H.next,[]⟩ w:=
 ⟨h.Jq,h.fresh,h.Io,fun n o hn=>by simp [Aq] at hn,fun n o q hn=>MJc,fun n o m p q q' hn=>MDn⟩
theorem aAy {Γ:Gm} {H:Hp} {w:World} (h:R C Γ H w) {ev:Operand->AV} {Nz:Operand->Value} (Fa:∀ x,VR Γ (ev x) (Nz x)) (o:Oper) {v:AV} (hv:(tX C o.op ev (lkO o.op H)).EW v) :
  ∃ v' w' BU,(execOp Nz o).run C.P w=.ok (.value v') w'/\VR BU v v'/\Au C H.next Γ H w BU H w':=by
 have plain:(pop C.P o.op ev (lkO o.op H)).EW v->∃ v' w' BU,(execOp Nz o).run C.P w=.ok (.value v') w'/\VR BU v v'/\Au C H.next Γ H w BU H w':=by
  intro hv
  have:∃ v',(execOp Nz o).run C.P w=.ok (.value v') w/\VR Γ v v':=by
   unfold lkO at hv
   split at hv
   ·exact KE h Fa o hv
   ·exact KE (H:=⟨H.next,[]⟩) h.bare Fa o hv
  obtain⟨v',h1,h2⟩:=this
  exact⟨v',w,Γ,h1,h2,Au.refl h _ (qN _)⟩
 unfold tX at hv
 split at hv
 ·rename_i t n parts e
  obtain⟨v',w',BU,h1,h2,h3⟩:=aAz h Fa hv
  exact⟨v',w',BU,by simp [execOp,e,h1],h2,h3⟩
 ·exact plain hv
theorem aEJ {op:Op} {ev:Operand->AV} {lk:Nat->Option Ag} {v:AV} (h:(tX C op ev lk).EW v):∀ c,op ≠ .defer c:=by
 rintro c rfl
 exact h
theorem aGe {Γ:Gm} {σ σ':Sg} {ds:List AD} {N:Nat} {a:Act} {l:List Nat} (h:SR df0 Γ σ ds N a) (he:∀ t∈l,σ t=σ' t):SR df0 Γ (Oc l σ') ds N a:=by
 refine⟨h.size,fun t=>?_,h.df⟩
 unfold Oc
 split
 ·rename_i e
  rw [<- he t (Dl.1 e)]
  exact h.tm t
 trivial
theorem aAx {ro:Option Nat} {N:Nat} {ops:Array Oper} {σ0:Sg} {S:Nat->Bool} {L:List En} {ds:List AD} {Γ:Gm} {H:Hp} {a:Act} {w:World} {Q:Exit->Act->World->Prop} {K:Act->World->Prop}
  (OQ:SO N ops.toList) (hI:DI C df0 N ops.toList σ0 S L ds Γ H a w) {L1 L2:List En} {e:En} (hL:L=L1++e::L2) (hs:e.sy=false) (he:S e.i=false) (hd:∀ d∈YQ e.o,S d=true)
  (hn:∀ v' w' BU,VR BU e.v v'->Au C H.next Γ H w BU H w'->K (a.put e.o.dst v') w'):wpOpIn (Fz ro) 0 C.P ops Q e.i K a w:=by
 have hh:=hI.held L1 e L2 hL hs he
 have hl:=hI.lok
 rw [hL] at hl
 have hsr:SR df0 Γ (Oc (looks ops.toList e.o) (ap σ0 L2)) ds N a:=aGe hI.sr fun t ht=>by
  rw [hL];exact view OQ hl hI.clo he hd ht
 have ho:ops[e.i]?=some e.o:=by
  have:=hl.tail.1
  rw [LQ,kJ] at this
  exact this
 unfold wpOpIn
 simp only [ho]
 unfold IX at hh
 split at hh
 ·rename_i hg
  rw [JY hsr hg]
  simp only [jv]
  refine⟨fun _ _=>trivial,?_⟩
  obtain⟨v',w',BU,h1,h2,h3⟩:=aAy hI.r (NQ hI.r hsr) e.o hh
  show e.o.uponIn (Fz ro) 0 C.P a K Q ((e.o.semAt ro a.eval).run C.P w)
  rw [Oper.semAt_eq ro a.eval e.o (aEJ hh),h1]
  exact hn v' w' BU h2 h3
 ·rename_i hg
  rw [JY hsr hg]
  simp only [qV,jh]
  refine⟨fun _ _=>trivial,hn undef w Γ ?_ (Au.refl hI.r _ (qN _))⟩
  grind [IQ]
 ·exact hh.elim
theorem SR.aOj {Γ BU:Gm} {σ σ':Sg} {ds CS:List AD} {N:Nat} {a:Act} (h:SR df0 Γ σ ds N a) (hb:Γ.le BU) {dst:Option Tmp} {v:AV} {v':Value} {mI:List Deferred} (hv:VR BU v v') (hd:Uh df0 BU CS mI) (hN:∀ d,dst=some d->d<N)
  (hσ:∀ t,σ' t=(match dst with | none=>σ | some d=>bI σ d v) t):SR df0 BU σ' CS N (({ a with defers:=mI }:Act).put dst v'):=by
 cases dst with
 | none=>
  refine⟨h.size,fun t=>?_,hd⟩
  rw [hσ t]
  exact EF hb _ _ (h.tm t)
 | some d=>
  have:σ'=bI σ d v:=funext hσ
  rw [this]
  exact h.put hb hv hd (hN d rfl)
theorem Yv {all:List Oper} {σ0:Sg} {hs:List Nat} {H:Hp}:∀ {L:List En},Wt C all σ0 hs H L->∀ {L1 L2:List En} {e:En},L=L1++e::L2->D6 e.i hs=true->IX C all σ0 H e L2
 | [],_,L1,L2,e,h,_=>by simp at h
 | x::L,h,[],L2,e,hL,he=>by
  simp only [kg,jc] at hL
  obtain⟨rfl,rfl⟩:=hL
  grind [Wt]
 | x::L,h,y::L1,L2,e,hL,he=>by
  simp only [kD,jc] at hL
  simp only [Wt] at h
  split at h
  ·exact Yv h.2 hL.2 he
  ·exact Yv h hL.2 he
theorem V3 {all:List Oper} {σ0:Sg} {H H':Hp} {e:En} {L:List En} (hr:Fp e.o.op=false) (h:IX C all σ0 H e L):IX C all σ0 H' e L:=by
 grind [IX,lkO]
theorem advance {rd:Bool} {N:Nat} {all:List Oper} {ms:List Nat} {σ0:Sg} {K:Sg->List AD->Hp->Prop} {X:List AP->Sg->List AD->Hp->Prop} {S:Nat->Bool} {ds:List AD} {Γ:Gm} {H:Hp} {a:Act} {w:World} :
  ∀ (ot:OT) (L:List En) (pu:List Nat),JB all ms ot (dm L) pu []=true->(∀ e∈L,e.sy=false->Fp e.o.op=true->e.i∈pu)->vD C rd all σ0 K X ot L ds H->DI C df0 N all σ0 S L ds Γ H a w ->
   ∃ ot' L' pu',JB all ms ot' (dm L') pu' []=true/\(∀ e∈L',e.sy=false->Fp e.o.op=true->e.i∈pu')/\vD C rd all σ0 K X ot' L' ds H/\DI C df0 N all σ0 S L' ds Γ H a w/\(ot'=.fin∨∃ i hs t alt,ot'=.A8 i hs t alt)
 | .fin,L,pu,DF,hpu,hv,hI=>⟨_,L,pu,DF,hpu,hv,hI, .inl rfl⟩
 | .A8 i hs t alt,L,pu,DF,hpu,hv,hI=>⟨_,L,pu,DF,hpu,hv,hI, .inr ⟨_,_,_,_,rfl⟩⟩
 | .nil,L,pu,DF,hpu,hv,hI=>by trivial
 | .pure i t,L,pu,DF,hpu,hv,hI=>by
  simp only [JB,qC,ku] at DF
  obtain⟨hi,DF⟩:=DF
  simp only [aCQ] at hv
  cases ho:Du all i with
  | none=>simp_all
  | some o=>
   rw [ho] at hv DF
   simp only [qC] at DF hv
   obtain⟨hdp,DF⟩:=DF
   have hni:i ∉ dm L:=Pj.1 hi
   have aQs:∀ d∈YQ o,d∈dm L:=fun d hd=>Dl.1 (qi.1 hdp d hd)
   have hSi:S i=false:=by
    cases h:S i
    ·rfl
    ·exact absurd (hI.sub i h) hni
   -- with its value
   have go:∀ v,IX C all σ0 H ⟨i,o,v,false⟩ L->DI C df0 N all σ0 S (⟨i,o,v,false⟩::L) ds Γ H a w:=by
    intro v hh
    refine⟨⟨ho,aQs,hni,hI.lok⟩,hI.clo,fun j hj=>qh _ (hI.sub j hj),fun e he hs=>?_,hI.r,?_,fun L1 e L2 hL hs hS=>?_⟩
    ·rcases qw.1 he with rfl | he
     ·cases hs
     ·exact hI.syn e he hs
    ·rw [xR (by simp [hSi])]
     exact hI.sr
    ·cases L1 with
     | nil=>
      simp_all
     | cons x L1=>
      simp only [kD,jc] at hL
      exact hI.held L1 e L2 hL.2 hs hS
   have aOl:∀ v,∀ e∈(⟨i,o,v,false⟩::L:List En),e.sy=false->Fp e.o.op=true->e.i∈(match Fp o.op with | true=>i::pu | false=>pu):=by
    intro v e he hs hr
    rcases qw.1 he with rfl | he
    ·simp_all
    ·grind
   cases hg:gd all o (Oc (looks all o) (ap σ0 L)) with
   | none=>simp_all
   | some b=>
    rw [hg] at hv
    cases b with
    | true=>
     obtain⟨v,h1,h2⟩:=Ba.YY hv
     exact advance t (⟨i,o,v,false⟩::L) _ DF (aOl v) h2 (go v (by grind [IX]))
    | false=>
     exact advance t (⟨i,o,Bv,false⟩::L) _ DF (aOl Bv) hv (go Bv (by grind [IX]))
def aGf (C:Cx) (rd:Bool) (all:List Oper) (σ0:Sg) (K:Sg->List AD->Hp->Prop) (X:List AP->Sg->List AD->Hp->Prop) (i:Nat) (hs:List Nat) (t:OT) (L:List En) (ds:List AD) (H:Hp):Prop:=
 match Du all i with
   | none=>False
   | some o=>match gd all o (Oc (looks all o) (ap σ0 L)) with
    | some true=>Wu C rd o (Oc (looks all o) (ap σ0 L)) ds H
      (fun v CS H'=>match hs with
       | []=>vD C rd all σ0 K X t (⟨i,o,v,true⟩::L) CS H'
       | hs=>Wt C all σ0 hs H' L/\vD C rd all σ0 K X t (⟨i,o,v,true⟩::L) CS H')
      (fun ch H'=>X ch (unw all σ0) ds H')
    | some false=>vD C rd all σ0 K X t (⟨i,o,Bv,true⟩::L) ds H
    | none=>False
theorem tV {rd:Bool} {all:List Oper} {ms:List Nat} {σ0:Sg} {K:Sg->List AD->Hp->Prop} {X:List AP->Sg->List AD->Hp->Prop} {L:List En} {ds:List AD} {H:Hp} {Nw pu:List Nat} {i:Nat} {o:Oper} (hi:i ∉ Nw) (ho:Du all i=some o) (hd:∀ d∈YQ o,d∈Nw) :
  ∀ (ot:OT) (es:List Nat),JB all ms ot Nw pu es=true->(∃ j hs t alt,ot=.A8 j hs t alt)->vD C rd all σ0 K X ot L ds H->i ∉ es ->
   ∃ hs t,JB all ms t (i::Nw) pu []=true/\pu.all (fun k=>D6 k hs || (Lg ms i).testBit k)=true/\aGf C rd all σ0 K X i hs t L ds H
 | .fin,_,_,h,_,_=>by simp_all
 | .pure _ _,_,_,h,_,_=>by simp_all
 | .nil,_,_,h,_,_=>by trivial
 | .A8 j hs t alt,es,DF,_,hv,U6=>by
  simp only [JB,qC,ku] at DF
  obtain⟨hj,DF⟩:=DF
  cases hoj:Du all j with
  | none=>simp_all
  | some oj=>
   rw [hoj] at DF
   simp only [qC] at DF
   obtain⟨⟨⟨h1,h2⟩,h3⟩,h4⟩:=DF
   have hit:aGf C rd all σ0 K X j hs t L ds H/\(alt ≠ .nil->vD C rd all σ0 K X alt L ds H):=by
    simp only [aGg] at hv
    split at hv
    ·exact⟨hv,fun h=>absurd rfl h⟩
    ·exact⟨hv.1,fun _=>hv.2⟩
   by_cases e:i=j
   ·grind
   ·cases alt with
    | fin=>cases h4
    | pure _ _=>cases h4
    | nil=>
     exfalso
     have:=JC h4 ho
     simp only [ql,kW] at this
     rcases this with (h5 | h5) | h5
     ·exact hi (Dl.1 h5)
     ·rcases qw.1 (Dl.1 h5) with h6 | h6
      ·exact e h6
      ·exact U6 h6
     ·obtain⟨d,h6,h7⟩:=ve.1 h5
      rw [Dl.2 (hd d h6)] at h7
      cases h7
    | A8 j' hs' t' aSI=>
     exact tV hi ho hd _ (j::es) h4 ⟨_,_,_,_,rfl⟩ (hit.2 MBV) (by
      simp_all)
end
end Go.Proofs.YtkegmchjobphdaaGreatDoor.Y
namespace Go.Proofs.YtkegmchjobphdaaGreatDoor.Y
open Go
def unl:List Bool->Nat
 | []=>0
 | true::r=>unl r
 | false::r=>unl r+1
theorem aCP:∀ {l:List Bool} {i:Nat},l[i]?=some false->unl (l.set i true)+1=unl l
 | [],i,h=>by simp at h
 | b::r,0,h=>by
  simp only [List.getElem?_cons_zero,qo] at h
  subst h
  rfl
 | b::r,i+1,h=>by
  simp only [xW] at h
  have:=aCP h
  cases b <;> simp only [List.set_cons_succ,unl] <;> omega
theorem tO:∀ {l:List Bool},unl l=0->∀ {i:Nat},l[i]? ≠ some false
 | [],_,i=>by simp
 | true::r,h,0=>by simp
 | true::r,h,i+1=>by
  simp only [xW]
  exact tO (l:=r) h
 | false::r,h,_=>by simp [unl] at h
section
variable {C:Cx} {df0:Option (List Deferred)} {ops:Array Oper}
theorem mem_ready {listed:Array Bool} (hsz:listed.size=ops.size) {i:Nat}:i∈Region.ready .any ops listed ↔ ∃ o,Du ops.toList i=some o/\listed.getD i false=false/\∀ d∈YQ o,listed.getD d false=true:=by
 unfold Region.ready
 rw [je,xP]
 constructor
 ·rintro⟨h1,h2⟩
  rw [qC] at h2
  have ho:ops[i]?=some (ops[i]'h1):=xV h1
  refine⟨ops[i]'h1,by grind [LQ],?_,fun d hd=>?_⟩
  ·simp_all
  ·have h3:=h2.2
   rw [ho] at h3
   simp only [xg,zY] at h3
   rw [<- Array.all_toList,qi] at h3
   unfold YQ at hd
   grind
 ·rintro⟨o,h1,h2,h3⟩
  rw [LQ,kJ] at h1
  have GL:i<ops.size:=by
   exact MGh
  refine⟨GL,?_⟩
  rw [qC,h1]
  refine⟨?_,?_⟩
  ·simp_all
  ·simp only [xg,zY]
   rw [<- Array.all_toList,qi]
   intro e he
   by_cases hb:Region.binds .any e=true
   ·have:=h3 e.on (qz.2 ⟨e,je.2 ⟨he,hb⟩,rfl⟩)
    simp [hb,this]
   ·simp [hb]
theorem aAw {listed:Array Bool} {i:Nat} (hi:i<listed.size) (j:Nat):(listed.setIfInBounds i true).getD j false=(listed.getD j false || Nat.beq j i):=by
 simp only [kN]
 by_cases e:j=i
 ·simp_all
 ·rw [jF (vW e)]
  simp_all
theorem Yr {d:Nat}:∀ {all:List Oper} {i:Nat} {o:Oper},Du all i=some o->o.dst=some d->d∈dstsOf all
 | [],i,o,h,_=>by simp [Du] at h
 | x::r,0,o,h,hd=>by
  grind [Du,dstsOf]
 | x::r,i+1,o,h,hd=>by
  have:=Yr (all:=r) (i:=i) (by simpa [Du] using h) hd
  simp only [dstsOf]
  split
  ·exact this
  ·exact qh _ this
theorem aMr {Γ:Gm} {σ0:Sg} {ds:List AD} {N:Nat} {a:Act} {all:List Oper} {L:List En} (hl:tQ all L) {S:Nat->Bool} (h:SR df0 Γ (ap σ0 (L.filter fun e=>S e.i)) ds N a):SR df0 Γ (unw all σ0) ds N a:=by
 refine⟨h.size,fun t=>?_,h.df⟩
 unfold unw
 split
 ·exact XY _ _
 ·rename_i e
  have:=h.tm t
  rw [show(L.filter fun e=>S e.i)=(L.filter fun e=>S e.i)++[] by simp,mH] at this
  ·exact this
  ·intro x hx hd
   have:=(hl.get (je.1 hx).1).1
   exact Pj.1 e (Yr this hd)
theorem DI.aQr {N:Nat} {all:List Oper} {σ0:Sg} {S S':Nat->Bool} {L:List En} {ds:List AD} {Γ:Gm} {H:Hp} {a:Act} {w:World} (OQ:SO N all) (hI:DI C df0 N all σ0 S L ds Γ H a w) {L1 L2:List En} {e:En} (hL:L=L1++e::L2) (he:S e.i=false) (hd:∀ d∈YQ e.o,S d=true)
  (hS':∀ j,S' j=(S j || Nat.beq j e.i)) {v':Value} {w':World} {BU:Gm} (hv:VR BU e.v v') (hLx:Au C H.next Γ H w BU H w'):DI C df0 N all σ0 S' L ds BU H (a.put e.o.dst v') w':=by
 have hl:=hI.lok
 rw [hL] at hl
 have up:∀ j,S j=true->S' j=true:=fun j hj=>by rw [hS',hj];rfl
 have dn:∀ j,S' j=true->S j=true∨j=e.i:=fun j hj=>by
  simp_all
 refine⟨hI.lok,fun i o hi ho d SL=>?_,fun i hi=>?_,fun x hx hs=>up _ (hI.syn x hx hs),hLx.1,?_,fun M1 x M2 hM hs hx=>hI.held M1 x M2 hM hs ?_⟩
 ·rcases dn i hi with h | rfl
  ·exact up _ (hI.clo i o h ho d SL)
  ·rw [hl.tail.1] at ho
   simp_all
 ·rcases dn i hi with h | rfl
  ·exact hI.sub i h
  grind [dm]
 ·have:=hI.sr.aOj (hLx.le hI.r) (dst:=e.o.dst) (σ':=ap σ0 (L.filter fun x=>S' x.i)) hv (Kg (hLx.le hI.r) hI.sr.df) (fun d h=>OQ.1 _ _ d hl.tail.1 h) (fun t=>by
   rw [hL]
   exact Yt OQ hl hI.clo he hS' t)
  exact this
 simp_all
theorem tC {ro:Option Nat} {rd:Bool} (Wq:rd=ro.isSome) {Q:Exit->Act->World->Prop} {n0 N:Nat} {K:Sg->List AD->Hp->Prop} {X:List AP->Sg->List AD->Hp->Prop} {Γ0:Gm} {H0:Hp} {w0:World} {σ0:Sg} (OQ:SO N ops.toList)
  (hK:∀ σ' CS H' BU a' w',K σ' CS H'->SR df0 BU σ' CS N a'->Au C n0 Γ0 H0 w0 BU H' w'->Q .normal a' w')
  (hX:∀ ch σ' CS H' BU Gz a' w',X ch σ' CS H'->Ny BU ch Gz->SR df0 BU σ' CS N a'->Au C n0 Γ0 H0 w0 BU H' w'->Q (.panic Gz) a' w') :
  ∀ (fuel:Nat) (ot:OT) (L:List En) (ds:List AD) (H:Hp) (Γ:Gm) (a:Act) (w:World) (listed:Array Bool) (pu:List Nat),
   JB ops.toList (Cr ops.toList []) ot (dm L) pu []=true->(∀ e∈L,e.sy=false->Fp e.o.op=true->e.i∈pu)->vD C rd ops.toList σ0 K X ot L ds H ->
   DI C df0 N ops.toList σ0 (fun i=>listed.getD i false) L ds Γ H a w->Au C n0 Γ0 H0 w0 Γ H w->listed.size=ops.size->unl listed.toList<=fuel->wpAnyIn (Fz ro) 0 C.P .any ops Q fuel listed a w:=by
 intro fuel
 have hm:∀ i j,(Lg (Cr ops.toList []) i).testBit j=true->Bef ops.toList i j:=Pk ops.toList [] [] rfl rfl (by grind [Lg])
 -- nothing is left
 have fin:∀ (ot:OT) (L:List En) (ds:List AD) (H:Hp) (Γ:Gm) (a:Act) (w:World) (listed:Array Bool) (pu:List Nat),
   JB ops.toList (Cr ops.toList []) ot (dm L) pu []=true->(∀ e∈L,e.sy=false->Fp e.o.op=true->e.i∈pu)->vD C rd ops.toList σ0 K X ot L ds H ->
   DI C df0 N ops.toList σ0 (fun i=>listed.getD i false) L ds Γ H a w->Au C n0 Γ0 H0 w0 Γ H w->listed.size=ops.size->Region.ready .any ops listed=[]->Q .normal a w:=by
  intro ot L ds H Γ a w listed pu DF hpu hv hI hL hsz hr
  have Bt:∀ i,i ∉ Region.ready .any ops listed:=fun i h=>MAe
  obtain⟨ot',L',pu',DF,hpu,hv,hI,ho⟩:=advance ot L pu DF hpu hv hI
  have aDf:∀ e∈L',listed.getD e.i false=true:=by
   intro e he
   cases hc:listed.getD e.i false
   ·exfalso
    obtain⟨A,x,B,h1,h2,h3⟩:=cZ (S:=fun i=>listed.getD i false) hI.lok ⟨e,he,hc⟩
    have hl:=hI.lok
    rw [h1] at hl
    refine Bt x.i ((mem_ready hsz).2 ⟨x.o,hl.tail.1,h2,fun d hd=>?_⟩)
    obtain⟨y,hy,rfl⟩:=qz.1 (hl.tail.2.1 d hd)
    exact h3 y hy
   ·rfl
  rcases ho with rfl | ⟨i,hs,t,alt,rfl⟩
  ·have hf:L'.filter (fun e=>listed.getD e.i false)=L':=List.filter_eq_self.2 aDf
   have:=hI.sr
   simp only [hf] at this
   exact hK _ _ _ _ _ _ hv this hL
  ·exfalso
   simp only [JB,qC,ku] at DF
   obtain⟨hi,DF⟩:=DF
   split at DF
   ·rename_i o ho
    simp only [qC] at DF
    refine Bt i ((mem_ready hsz).2 ⟨o,ho,?_,fun d hd=>?_⟩)
    ·cases hc:listed.getD i false
     ·rfl
     ·exact absurd (hI.sub i hc) (Pj.1 hi)
    ·have:=Dl.1 (qi.1 DF.1.1.1 d hd)
     obtain⟨y,hy,rfl⟩:=qz.1 this
     exact aDf y hy
   ·cases DF
 induction fuel with
 | zero=>
  intro ot L ds H Γ a w listed pu DF hpu hv hI hL hsz hu
  have hr:Region.ready .any ops listed=[]:=by
   apply List.eq_nil_iff_forall_not_mem.2
   intro i hi
   obtain⟨o,h1,h2,_⟩:=(mem_ready hsz).1 hi
   have GL:i<listed.size:=by
    rw [hsz]
    rw [LQ,kJ] at h1
    exact MGh
   refine tO (Nat.le_zero.1 hu) (i:=i) ?_
   rw [kJ,xV GL]
   rw [kN,xV GL] at h2
   exact qH some h2
  exact⟨hr,fin ot L ds H Γ a w listed pu DF hpu hv hI hL hsz hr⟩
 | succ fuel ih=>
  intro ot L ds H Γ a w listed pu DF hpu hv hI hL hsz hu
  refine⟨fun hr=>fin ot L ds H Γ a w listed pu DF hpu hv hI hL hsz hr,fun i hi=>?_⟩
  obtain⟨o,ho,hiS,hdS⟩:=(mem_ready hsz).1 hi
  have GL:i<listed.size:=by
   rw [hsz]
   have h1:=ho
   rw [LQ,kJ] at h1
   exact MGh
  have TQ:=fun j=>aAw GL j
  have aOk:(listed.setIfInBounds i true).size=ops.size:=by simpa using hsz
  have tT:unl (listed.setIfInBounds i true).toList<=fuel:=by
   rw [Array.toList_setIfInBounds]
   have:listed.toList[i]?=some false:=by
    rw [kJ,xV GL]
    rw [kN,xV GL] at hiS
    exact qH some hiS
   have:=aCP this
   omega
  obtain⟨ot',L',pu',DF,hpu,hv,hI,hot⟩:=advance ot L pu DF hpu hv hI
  by_cases him:i∈dm L'
  ·obtain⟨e,he,rfl⟩:=qz.1 him
   obtain⟨A,B,hAB⟩:=List.append_of_mem he
   have hsy:e.sy=false:=by
    cases h:e.sy
    ·rfl
    ·have:=hI.syn e he h;simp_all
   have heo:=(hI.lok.get he).1
   rw [ho] at heo
   injection heo with heo
   subst heo
   exact aAx OQ hI hAB hsy hiS hdS fun v' w1 Cq hv' hLx=>
    ih ot' L' ds H Cq _ w1 _ pu' DF hpu hv (hI.aQr OQ hAB hiS hdS TQ hv' hLx) (hL.trans (hLx.mono hL.2.2.1)) aOk tT
  ·rcases hot with rfl | ⟨j,hs,t,alt,rfl⟩
   ·exfalso
    have:=JC DF ho
    rw [ql] at this
    exact him (Dl.1 this)
   ·obtain⟨hs,t,k1,k2,k3⟩:=tV him ho (fun d hd=>hI.sub d (hdS d hd)) _ [] DF ⟨_,_,_,_,rfl⟩ hv MBV
    have hlk:∀ v,tQ ops.toList (⟨i,o,v,true⟩::L'):=fun v=>⟨ho,fun d hd=>hI.sub d (hdS d hd),him,hI.lok⟩
    have hff:∀ v,(List.filter (fun e=>listed.getD e.i false) (⟨i,o,v,true⟩::L'))=L'.filter fun e=>listed.getD e.i false:=fun v=>by
     simp_all
    have hsr:SR df0 Γ (Oc (looks ops.toList o) (ap σ0 L')) ds N a:=aGe hI.sr fun t ht=>by
     have:=view (σ0:=σ0) (L1:=[]) (e:=⟨i,o,Bv,true⟩) OQ (hlk Bv) hI.clo hiS hdS ht
     simp_all
    have hoo:ops[i]?=some o:=by
     rw [LQ,kJ] at ho
     exact ho
    -- behind the effect
    have go:∀ (v:AV) (CS:List AD) (H1:Hp) (Cq:Gm) (v':Value) (mI:List Deferred) (w1:World),
      (∀ L1 e L2,L'=L1++e::L2->e.sy=false->listed.getD e.i false=false->IX C ops.toList σ0 H1 e L2)->vD C rd ops.toList σ0 K X t (⟨i,o,v,true⟩::L') CS H1->VR Cq v v'->Uh df0 Cq CS mI->Au C H.next Γ H w Cq H1 w1 ->
      wpAnyIn (Fz ro) 0 C.P .any ops Q fuel (listed.setIfInBounds i true) (({ a with defers:=mI }:Act).put o.dst v') w1:=by
     intro v CS H1 Cq v' mI w1 hh hvd hvv SL Yd
     have up:∀ j,listed.getD j false=true->(listed.setIfInBounds i true).getD j false=true:=fun j hj=>MAe
     have dn:∀ j,(listed.setIfInBounds i true).getD j false=true->listed.getD j false=true∨j=i:=fun j hj=>by
      simp_all
     refine ih t (⟨i,o,v,true⟩::L') CS H1 Cq _ w1 _ pu' k1 (fun e he hs hr=>?_) hvd ⟨hlk v,fun j oj hj hoj d SL=>?_,fun j hj=>?_,fun e he hs=>?_,Yd.1,?_,fun M1 e M2 hM hs hS=>?_⟩ (hL.trans (Yd.mono hL.2.2.1)) aOk tT
     ·grind
     ·rcases dn j hj with h | rfl
      ·exact up _ (hI.clo j oj h hoj d SL)
      simp_all
     ·rcases dn j hj with h | rfl
      ·exact qh _ (hI.sub j h)
      ·simp [dm]
     ·rcases qw.1 he with rfl | he
      ·simp_all
      ·exact up _ (hI.syn e he hs)
     ·refine hI.sr.aOj (Yd.le hI.r) hvv SL (fun d h=>OQ.1 _ _ d ho h) fun t=>?_
      have:=Yt (σ0:=σ0) (L1:=[]) (e:=⟨i,o,v,true⟩) (S':=fun j=>(listed.setIfInBounds i true).getD j false) OQ (hlk v) hI.clo hiS TQ t
      simp only [kg] at this
      rw [hff] at this
      exact this
     ·cases M1 with
      | nil=>
       grind
      | cons x M1=>
       simp_all
    unfold wpOpIn
    simp only [hoo]
    unfold aGf at k3
    rw [ho] at k3
    simp only at k3
    split at k3
    ·rename_i hg
     rw [JY hsr hg]
     simp only [jv]
     refine fG hI.r hsr Wq ⟨fun v CS H' BU v' mI w' hk hvv SL Yd=>?_,fun ch H' BU Gz w' hx hp Yd=>?_⟩ k3
     ·have Vr:(∀ L1 e L2,L'=L1++e::L2->e.sy=false->listed.getD e.i false=false->IX C ops.toList σ0 H' e L2)/\vD C rd ops.toList σ0 K X t (⟨i,o,v,true⟩::L') CS H':=by
       have key:∀ e,e∈L'->e.sy=false->listed.getD e.i false=false->Fp e.o.op=true->D6 e.i hs=true:=by
        intro e he hsy hS hr
        have:=qi.1 k2 e.i (hpu e he hsy hr)
        rw [kW] at this
        rcases this with h | h
        ·exact h
        ·have:=(hm _ _ h).mem hI.clo (fun o' Yu d hd=>by
          simp_all)
         simp_all
       cases hs with
       | nil=>
        refine⟨fun L1 e L2 hM hsy hS=>?_,hk⟩
        cases hr:Fp e.o.op
        ·exact V3 hr (hI.held L1 e L2 hM hsy hS)
        grind [D6]
       | cons x xs=>
        refine⟨fun L1 e L2 hM hsy hS=>?_,hk.2⟩
        cases hr:Fp e.o.op
        ·exact V3 hr (hI.held L1 e L2 hM hsy hS)
        grind [Yv]
      grind
     ·exact hX ch _ ds H' BU Gz a w' hx hp ((aMr (S:=fun i=>listed.getD i false) hI.lok hI.sr).mono (Yd.le hI.r)) (hL.trans (Yd.mono hL.2.2.1))
    ·rename_i hg
     rw [JY hsr hg]
     simp only [qV,jh]
     exact⟨fun _ _=>trivial,go Bv ds H Γ undef a.defers w (fun L1 e L2 hM hsy hS=>hI.held L1 e L2 hM hsy hS) k3 (IQ Γ) hI.sr.df (Au.refl hI.r _ (qN _))⟩
    ·exact k3.elim
end
end Go.Proofs.YtkegmchjobphdaaGreatDoor.Y
namespace Go.Proofs.YtkegmchjobphdaaGreatDoor.Y
open Go
def XR (Γ:Gm):AX->Exit->Prop
 | .normal,e'=>e'=.normal
 | .exit i,e'=>e'=.exit i
 | .goto l,e'=>e'=.goto l
 | .ret,e'=>e'=.ret
 | .panic ch,e'=>∃ Gz,e'=.panic Gz/\Ny Γ ch Gz
def CP (C:Cx) (r:Bool) (B:Nat->Prop) (n0 N:Nat) (Γ:Gm) (H:Hp) (w:World) (Q:KQ) (e':Exit) (a':Act) (w':World):Prop:=
 ∃ e σ' CS H' BU,Q e σ' CS H'/\XR BU e e'/\SX r B BU H' w' σ' CS N a'/\Au C n0 Γ H w BU H' w'
def q9 (P:Program) (b:Frame) (c:Code) (Q:Exit->Act->World->Prop) (a:Act) (w:World):Prop:=
 ∀ (k:List Item) (cs:List Frame),∃ e a' w',Q e a' w'/\ArrivesIn (Machine.fenced P (Fz b.roundOf)) P (lone (b.atR a (.code c::k)) cs w) b k cs e a' w'
section
variable {P:Program} {b:Frame} {Q Q':Exit->Act->World->Prop} {a:Act} {w:World}
theorem TG (ro:Option Nat) (n:Nat):(Fz ro).room n:=fun d hd=>MDL
theorem aOf (ro:Option Nat) (f:FuncId):(Fz ro).fn f:=trivial
theorem BO {fr:Frame} {cs:List Frame} {w:World} (ro:Option Nat):(lone fr cs w).fenced P (Fz ro):=
 fenced_lone (.inl trivial) (fun _ _=>trivial) (TG _ _)
theorem Lj {c:Code} (h:c.wpIn (Fz b.roundOf) 0 P Q a w):q9 P b c Q a w:=fun k cs=>h b k cs rfl (aOf _ _) (TG _ _)
theorem Ph {c:Code} (h:q9 P b c Q a w) (hq:∀ e a w,Q e a w->Q' e a w):q9 P b c Q' a w:=
 fun k cs=>let ⟨e,a',w',q,r⟩:=h k cs;⟨e,a',w',hq _ _ _ q,r⟩
theorem aJl {x y:Code} (h:q9 P b x (Exit.then (q9 P b y Q) Q) a w):q9 P b (.seq x y) Q a w:=by
 intro k cs
 obtain⟨e,Je,IW,hq,DY⟩:=h (.code y::k) cs
 have s0:StepsIn (Machine.fenced P (Fz b.roundOf)) P (lone (b.atR a (.code (.seq x y)::k)) cs w) (lone (b.atR a (.code x::.code y::k)) cs w):=.one (BO _) stepR_seq
 cases e with
 | normal=>
  obtain⟨aMp,aMq,aEH,aGb,mG⟩:=hq k cs
  exact⟨aMp,aMq,aEH,aGb, .of_steps (StepsIn.trans s0 DY) mG⟩
 | exit id=>exact MCI
 | goto l=>exact MCI
 | ret=>exact MCI
 | panic ch=>exact MCI
 | outgrown=>exact MCI
theorem tF {c:Operand} {x y:Code} {t:Bool} (hc:a.eval c=.bool t) (h:q9 P b (if t then x else y) Q a w):q9 P b (.cond c x y) Q a w:=
 fun k cs=>let ⟨e,a',w',q,r⟩:=h k cs;⟨e,a',w',q, .of_steps (.one (BO _) (stepR_cond hc)) r⟩
theorem aGa {c:Code} {α:Type} (I:α->Act->World->Prop) (μ:α->Nat) (aOg:α) (aQp:I aOg a w)
  (round:∀ x a w,I x a w->q9 P b c (Exit.then (fun a' w'=>∃ x',I x' a' w'/\μ x'<μ x) Q) a w):q9 P b (.loop c) Q a w:=by
 intro k cs
 have key:∀ j x a w,μ x=j->I x a w ->
   ∃ e a' w',Q e a' w'/\ArrivesIn (Machine.fenced P (Fz b.roundOf)) P (lone (b.atR a (.code c::.inLoop c::k)) cs w) b k cs e a' w':=by
  intro j
  induction j using Nat.strongRecOn with
  | _ j ih=>
   intro x a w hn hI
   obtain⟨e,Je,IW,hq,DY⟩:=round x a w hI (.inLoop c::k) cs
   cases e with
   | normal=>
    obtain⟨x',aOh,GL⟩:=hq
    obtain⟨aMp,aMq,aEH,aGb,mG⟩:=ih (μ x') (hn ▸ GL) x' Je IW rfl aOh
    exact⟨aMp,aMq,aEH,aGb, .of_steps (StepsIn.trans DY (.one (BO _) stepR_inLoop)) mG⟩
   | exit id=>exact MCc
   | goto l=>exact MCc
   | ret=>exact MCc
   | panic ch=>exact MCc
   | outgrown=>exact MCc
 obtain⟨e,a',w',hq,DY⟩:=key _ aOg a w rfl aQp
 exact⟨e,a',w',hq, .of_steps (.one (BO _) stepR_loop) DY⟩
theorem aEE {id:Nat} {c:Code} (h:q9 P b c (Exit.inBlock id Q) a w):q9 P b (.block id c) Q a w:=by
 intro k cs
 obtain⟨e,Je,IW,hq,DY⟩:=h (.inBlock id::k) cs
 have s0:StepsIn (Machine.fenced P (Fz b.roundOf)) P (lone (b.atR a (.code (.block id c)::k)) cs w) (lone (b.atR a (.code c::.inBlock id::k)) cs w):=.one (BO _) stepR_block
 cases e with
 | normal=>exact⟨.normal,Je,IW,hq,StepsIn.trans s0 (StepsIn.trans DY (.one (BO _) stepR_inBlock))⟩
 | exit id'=>
  by_cases hid:id'=id
  ·subst hid
   simp only [Exit.inBlock,jv] at hq
   exact⟨.normal,Je,IW,hq,StepsIn.trans s0 (DY.1 k (by simp [exitTo]))⟩
  ·simp only [Exit.inBlock,hid,jh] at hq
   have hx:exitTo id' (.inBlock id::k)=exitTo id' k:=by
    have:(id == id')=false:=by simp;exact fun h=>hid h.symm
    simp [exitTo,this]
   refine⟨.exit id',Je,IW,hq,fun k' hk=>StepsIn.trans s0 (DY.1 k' (hx.trans hk)),fun hr hk=>?_⟩
   exact MFC
 | goto l=>
  have hx:gotoIn l (.inBlock id::k)=gotoIn l k:=by simp [gotoIn]
  refine⟨_,Je,IW,hq,fun k' hk=>StepsIn.trans s0 (DY.1 k' (hx.trans hk)),fun hr hk=>?_⟩
  exact MFC
 | ret=>exact⟨_,Je,IW,hq, .of_steps s0 DY⟩
 | panic ch=>exact⟨_,Je,IW,hq, .of_steps s0 DY⟩
 | outgrown=>exact⟨_,Je,IW,hq, .of_steps s0 DY⟩
theorem tK {c:Code} {k:List Item} {cs:List Frame}:step P (lone (b.atR a (.code (.scope c)::k)) cs w)=.next (lone (b.atR a (.code c::.inScope c::k)) cs w):=
 step_lone_go (by rfl)
theorem cK {c:Code} {k:List Item} {cs:List Frame}:step P (lone (b.atR a (.inScope c::k)) cs w)=.next (lone (b.atR a k) cs w):=
 step_lone_go (by rfl)
theorem aEG {c:Code} (h:q9 P b c (fun e a w=>(∀ l,e ≠ .goto l)/\Q e a w) a w):q9 P b (.scope c) Q a w:=by
 intro k cs
 obtain⟨e,Je,IW,⟨hng,hq⟩,DY⟩:=h (.inScope c::k) cs
 have s0:StepsIn (Machine.fenced P (Fz b.roundOf)) P (lone (b.atR a (.code (.scope c)::k)) cs w) (lone (b.atR a (.code c::.inScope c::k)) cs w):=.one (BO _) tK
 cases e with
 | normal=>exact⟨.normal,Je,IW,hq,StepsIn.trans s0 (StepsIn.trans DY (.one (BO _) cK))⟩
 | exit id=>
  have hx:exitTo id (.inScope c::k)=exitTo id k:=by simp [exitTo]
  refine⟨.exit id,Je,IW,hq,fun k' hk=>StepsIn.trans s0 (DY.1 k' (hx.trans hk)),fun hr hk=>?_⟩
  exact MFC
 | goto l=>simp_all
 | ret=>exact⟨_,Je,IW,hq, .of_steps s0 DY⟩
 | panic ch=>exact⟨_,Je,IW,hq, .of_steps s0 DY⟩
 | outgrown=>exact⟨_,Je,IW,hq, .of_steps s0 DY⟩
def aCO (P:Program) (b:Frame) (l:Nat) (Q:Exit->Act->World->Prop) (a':Act):Ending->World->Prop
 | .returned _,aGc=>∃ jump aEI,(Instr.endLoop l).run P aGc=.ok jump aEI/\(match jump with | none=>Q .normal a' aEI | some c=>q9 P b c Q a' aEI)
 | .panicked chain,aGc=>Q (.panic chain) a' aGc
 | .outgrown,_=>False
theorem aEF {g:Operand} {ps:Array Tmp} {Fq bd:Code} {l:Nat} {mark:List Deferred} {IW aLz aEH:World} {d:Deferred} {f:FuncId} {args:Array Value}
  (he:(Instr.enterLoop b.fn a.tmps ps Fq bd b.roundOf).run P w=.ok (l,mark) IW) (Js:(resolve a.eval (rangeCall g l) 0).run P IW=.ok d aLz) (hinv:(invoke d.target d.args).run P aLz=.ok (.enter f args) aEH)
  (aGV:Calls P f args aEH (aCO P b l Q { a with defers:=mark++a.defers })):q9 P b (.rangeFunc g ps Fq bd) Q a w:=by
 intro k cs
 have Uz:=stepR_rangeFunc (P:=P) (b:=b) (a:=a) (k:=k) (cs:=cs) (w:=w) he Js hinv
 obtain⟨e,aGc,fr,hR,Ke,Vn,aGd⟩:=(Yq (ro:=b.roundOf) aGV).2 (b.atR { a with defers:=mark++a.defers } (.inRangeFunc l::k)::cs) (TG _ _)
 cases e with
 | outgrown=>exact hR.elim
 | returned v=>
  obtain⟨jump,aEI,Iq,hj⟩:=hR
  have aL0:StepsIn (Machine.fenced P (Fz b.roundOf)) P (lone (b.atR a (.code (.rangeFunc g ps Fq bd)::k)) cs w) (lone (b.atR { a with defers:=mark++a.defers } ((jump.map Item.code).toList++k)) cs aEI):=by
   refine .head (BO _) Uz (StepsIn.trans Ke (.head (BO _) ?_ (.one (BO _) (stepR_endRangeFunc Iq))))
   rw [<- finish_atR_inRangeFunc l v];exact step_leave_returned aGd
  cases jump with
  | none=>exact⟨.normal,_,aEI,hj,aL0⟩
  | some c=>
   obtain⟨e',a'',aQq,hq,DY⟩:=hj k cs
   exact⟨e',a'',aQq,hq, .of_steps aL0 DY⟩
 | panicked chain=>
  refine⟨.panic chain,_,aGc,hR, .inRangeFunc l::k, .head (BO _) Uz (StepsIn.trans Ke (.one (BO _) ?_))⟩
  rw [<- Frame.raise_atR];exact step_leave_panicked aGd
theorem Jd {l:Nat} {r:Loop} (h:w.heap[l]?=some (.loop r)):(Instr.getLoop l).run P w=.ok r w:=by
 simp [Instr.getLoop,getObj,Sem.run,h]
theorem Pg {l:Nat} {r r':Loop} (h:w.heap[l]?=some (.loop r)):(setObj l (.loop r')).run P w=.ok () (CL w l (.loop r')):=by
 simp only [setObj,Sem.run,h,CL]
theorem tL {l:Nat} {r:Loop} (h:w.heap[l]?=some (.loop r)) (hs:r.state ≠ .busy):(Instr.endLoop l).run P w=.ok r.pending (CL w l (.loop { r with state:=.exhausted })):=by
 simp [Instr.endLoop,Jd h,Pg (r':={ r with state:=.exhausted }) h]
 simp_all
end
section
variable {C:Cx}
theorem CP.trans {r:Bool} {B:Nat->Prop} {n0 N:Nat} {Γ Cq:Gm} {H H1:Hp} {w w1:World} {Q:KQ} (hL:Au C n0 Γ H w Cq H1 w1) {e':Exit} {a':Act} {w':World} (h:CP C r B n0 N Cq H1 w1 Q e' a' w'):CP C r B n0 N Γ H w Q e' a' w':=by
 obtain⟨e,σ',CS,H',BU,h1,h2,h3,h4⟩:=h
 exact⟨e,σ',CS,H',BU,h1,h2,h3,hL.trans h4⟩
def RO (n0:Nat) (Γ:Gm):Option Nat->Option Nat->Prop
 | none,ro=>ro=none
 | some l,ro=>l<n0/\∃ q,Γ.nm l=some q/\ro=some q.blk
theorem RO.isSome {n0:Nat} {Γ:Gm} {rn ro:Option Nat} (h:RO n0 Γ rn ro):rn.isSome=ro.isSome:=by
 cases rn with
 | none=>simp only [RO] at h;subst h;rfl
 | some l=>obtain⟨_,q,_,rfl⟩:=h;rfl
theorem RO.ext {n0:Nat} {Γ BU:Gm} {rn ro:Option Nat} (h:RO n0 Γ rn ro) (he:Ext n0 Γ BU):RO n0 BU rn ro:=by
 cases rn with
 | none=>exact h
 | some l=>obtain⟨h1,q,h2,h3⟩:=h;exact⟨h1,q,by rw [he l h1];exact h2,h3⟩
theorem aJm {H:Hp} {w:World} {Γ:Gm} {σ:Sg} {ds:List AD} {N:Nat} {a:Act} {hd:Option (List Deferred)} (hR:R C Γ H w) (h:SR hd Γ σ ds N a):a.tmps.size=N/\∀ t,VR (Γ.cut H.next) (σ t) (a.tmps.getD t undef):=by
 have:Γ.le (Γ.cut H.next):=by
  refine⟨fun n q hq=>?_,FW.le_refl _⟩
  have hn:n<H.next:=by
   exact MDG
  simp only [Gm.cut]
  rw [show Nat.blt n H.next=true by simpa using hn]
  exact hq
 exact⟨h.size,fun t=>EF this _ _ (h.tm t)⟩
theorem aAv {r:Bool} {B:Nat->Prop} {b:Frame} {n0 N L:Nat} {Γ Cq:Gm} {H H1:Hp} {w w1:World} {σ:Sg} {PG:List AD} {Q:KQ} {a':Act} {q:Pl} (JN:Au C n0 Γ H w Cq H1 w1) (hS1:SX r B Cq H1 w1 σ PG N a') (hq:Cq.nm L=some q) (GL:L<H1.next)
  {e':Ending} {w3:World} (hP:Fs C Cq H1 w1 (fun e H'=>match e with
  | .returned _=>match Aq H'.l L with
   | some o=>match o.c with
    | .lp st E5 lim n a b c d dn=>match st with
     | .busy=>False
     | _=>YR E5 Q σ PG { H' with l:=DJ H'.l L { o with c:=.lp .exhausted E5 lim n a b c d dn } }
    | _=>False
   | none=>False
  | .panicked ch=>Q (.panic ch) σ PG H') e' w3):aCO C.P b q.blk (CP C r B n0 N Γ H w Q) a' e' w3:=by
 obtain⟨e,H',BU,hQ,hE,hL⟩:=hP
 have hLn:Au C n0 Γ H w BU H' w3:=JN.trans (hL.mono JN.2.2.1)
 obtain⟨hd,O0,hx1⟩:=hS1
 have hSR:SX r B BU H' w3 σ PG N a':=⟨hd,O0.mono (hL.le JN.1),hx1.tr hL.2.2.2⟩
 cases e with
 | panicked ch=>
  obtain⟨Gz,rfl,hch⟩:=hE
  exact⟨.panic ch,σ,PG,H',BU,hQ,⟨Gz,rfl,hch⟩,hSR,hLn⟩
 | returned v=>
  obtain⟨v',rfl,_⟩:=hE
  simp only at hQ
  split at hQ <;> try exact hQ.elim
  rename_i o ho
  split at hQ <;> try exact hQ.elim
  rename_i st E5 lim n sg ps Fq bd dn hc
  have Gp:BU.nm L=some q:=by rw [hL.2.1 L GL];exact hq
  obtain⟨q',aOi,Em⟩:=hL.1.Dz L o ho
  rw [Gp] at aOi
  injection aOi with eq
  subst eq
  obtain⟨t,fr,c⟩:=o
  simp only at hc
  subst hc
  simp only [Cv] at Em
  obtain⟨BF,Ea,fn,tm,qd,Vn,Em,TM,hdn⟩:=Em
  subst Ea
  have tN:st ≠ .busy:=by
   intro e
   subst e
   exact hQ
  have hQ':YR E5 Q σ PG { H' with l:=DJ H'.l L ⟨t,false, .lp .exhausted E5 lim n sg ps Fq bd dn⟩ }:=by
   cases st <;> first | exact hQ | exact absurd rfl tN
  have Iq:=tL (P:=C.P) Em tN
  have Ob:=hL.1.bY ho rfl Gp BF (o':=⟨t,false, .lp .exhausted E5 lim n sg ps Fq bd dn⟩) rfl (x:=.loop { state:=.exhausted,pending:=E5,fn:=fn,tmps:=tm,params:=⟨ps⟩,assign:=Fq,body:=bd,defers:=qd.blk })
   (by simp only [Cv];exact MJZ)
  have Yd:=hLn.trans (Ob.mono hLn.2.2.1)
  obtain⟨hd2,U4,hx2⟩:=hSR
  have hSR:SX r B BU _ _ σ PG N a':=⟨hd2,U4,hx2.tr Ob.2.2.2⟩
  refine⟨E5,_,Iq,?_⟩
  unfold YR at hQ'
  split at hQ'
  ·exact⟨.normal,σ,PG,_,BU,hQ',rfl,hSR,Yd⟩
  ·exact Lj (wpIn_ret ⟨.ret,σ,PG,_,BU,hQ',rfl,hSR,Yd⟩)
  ·exact Lj (wpIn_exit ⟨.exit _,σ,PG,_,BU,hQ',rfl,hSR,Yd⟩)
  ·exact Lj (wpIn_goto ⟨.goto _,σ,PG,_,BU,hQ',rfl,hSR,Yd⟩)
  ·exact hQ'.elim
end
end Go.Proofs.YtkegmchjobphdaaGreatDoor.Y
namespace Go.Proofs.YtkegmchjobphdaaGreatDoor.Y
open Go
section
variable {C:Cx}
theorem aAu {a:Act} {w:World} {f:Operand} {l:Nat} {g:FuncId} {Ec FZ:Array Value} (h:a.eval f=.func (.func g) Ec FZ) :
  ∃ d,(resolve a.eval (rangeCall f l) 0).run C.P w=.ok d w/\d.target=.fn (.func g) FZ/\d.args=Ec++#[Value.func (.yield l) #[] #[]]:=by
 refine⟨{ target:=.fn (.func g) FZ,args:=Ec++#[Value.func (.yield l) #[] #[]] },?_,rfl,rfl⟩
 have e:a.eval (.const (.func (.yield l) #[] #[]))=.func (.yield l) #[] #[]:=rfl
 simp [resolve,h,Deferred.ofValue,e]
def noRange:Code->Bool
 | .seq x y=>noRange x && noRange y
 | .cond _ x y=>noRange x && noRange y
 | .block _ x=>noRange x
 | .loop x=>noRange x
 | .scope x=>noRange x
 | .rangeFunc ..=>false
 | _=>true
theorem GV {r:Bool} {B:Nat->Prop} {rn:Option Nat} {n0 N:Nat} {b:Frame} (Vn:(C.P.funcs[b.fn]?).isSome=true):∀ (c:Code) (_:(r || rn.isSome || noRange c)=true) (σ:Sg) (ds:List AD) (H:Hp) (Q:KQ) (Γ:Gm) (a:Act) (w:World),
  n0<=H.next->RO n0 Γ rn b.roundOf->R C Γ H w->SX r B Γ H w σ ds N a->vc C rn n0 N c σ ds H Q->q9 C.P b c (CP C r B n0 N Γ H w Q) a w
 | .skip,hr,σ,ds,H,Q,Γ,a,w,hn,PO,hR,hS,hv=>Lj (wpIn_skip ⟨.normal,_,_,_,_,hv,rfl,hS,Au.refl hR n0 hn⟩)
 | .label l,hr,σ,ds,H,Q,Γ,a,w,hn,PO,hR,hS,hv=>Lj (wpIn_label ⟨.normal,_,_,_,_,hv,rfl,hS,Au.refl hR n0 hn⟩)
 | .exit i,hr,σ,ds,H,Q,Γ,a,w,hn,PO,hR,hS,hv=>Lj (wpIn_exit ⟨.exit i,_,_,_,_,hv,rfl,hS,Au.refl hR n0 hn⟩)
 | .goto i,hr,σ,ds,H,Q,Γ,a,w,hn,PO,hR,hS,hv=>Lj (wpIn_goto ⟨.goto i,_,_,_,_,hv,rfl,hS,Au.refl hR n0 hn⟩)
 | .ret,hr,σ,ds,H,Q,Γ,a,w,hn,PO,hR,hS,hv=>Lj (wpIn_ret ⟨.ret,_,_,_,_,hv,rfl,hS,Au.refl hR n0 hn⟩)
 | .region id ops draw,hr,σ,ds,H,Q,Γ,a,w,hn,PO,hR,hS,hv=>by
  have Wq:=PO.isSome
  obtain⟨df0,fF,hx0⟩:=hS
  cases draw with
  | true=>
   simp only [U5] at hv
   obtain⟨ot,DF,hv⟩:=hv
   simp only [qC] at DF
   have OQ:=mF DF.1.2
   have hI:DI C df0 N ops.toList σ (fun i=>(Array.replicate ops.size false).getD i false) [] ds Γ H a { w with drawn:=w.drawn+1 }:=by
    have hf:∀ i,(Array.replicate ops.size false).getD i false=false:=by
     intro i
     rw [kN,zx]
     split <;> rfl
    refine⟨trivial,fun i o hi=>?_,fun i hi=>?_,fun e he=>by simp at he,hR.drew,?_,fun L1 e L2 hL=>by simp at hL⟩
    ·simp_all
    ·simp_all
    ·exact fF
   have hu:unl (Array.replicate ops.size false).toList<=ops.size:=by
    rw [Array.toList_replicate]
    have:∀ n,unl (List.replicate n false)=n:=by
     intro n
     induction n with
     | zero=>rfl
     | succ n ih=>grind [unl]
    rw [this]
    exact qN _
   have hL0:=Au.drew hR n0 hn
   refine Lj (wpIn_region_any DF.1.1 ?_)
   rcases hv with hv | ⟨α,sl,hp,pr,hv,hj⟩
   ·exact tC (C:=C) Wq (Q:=CP C r B n0 N Γ H w Q) (n0:=n0) (Γ0:=Γ) (H0:=H) (w0:=w) (σ0:=σ) OQ
     (fun σ' CS H' BU a' w' hk hs hl=>MHK)
     (fun ch σ' CS H' BU Gz a' w' hx hp hs hl=>MDk)
     ops.size ot [] ds H Γ a _ _ [] DF.2 (fun e he=>by simp at he) hv hI hL0 MBV hu
   ·exact tC (C:=C) Wq (Q:=CP C r B n0 N Γ H w Q) (n0:=n0) (Γ0:=Γ) (H0:=H) (w0:=w) (σ0:=σ) OQ
     (fun σ' CS H' BU a' w' hk hs hl=>by
      obtain⟨x,k1,k2⟩:=hk
      obtain⟨YT,k3,k4⟩:=k2 r B BU w' a' hl.2.2.1 hl.1 ⟨df0,hs,hx0.tr hl.2.2.2⟩
      exact⟨.normal,_,_,_,_,hj x k1,rfl,k3,hl.trans k4⟩)
     (fun ch σ' CS H' BU Gz a' w' hx hp hs hl=>MDk)
     ops.size ot [] ds H Γ a _ _ [] DF.2 (fun e he=>by simp at he) hv hI hL0 MBV hu
  | false=>
   simp only [U5] at hv
   refine Lj (wpIn_region ?_)
   have:=Yn (C:=C) Wq (ops:=ops) (Q:=CP C r B n0 N Γ H w Q) (n0:=n0) ops.toList [] σ ds H Γ a w MBV hn hR fF hv
    (fun σ' CS H' BU a' w' hk hs hl=>MHK)
    (fun ch σ' CS H' BU Gz a' w' hx hp hs hl=>MDk)
   simpa [List.range_eq_range'] using this
 | .seq x y,hr,σ,ds,H,Q,Γ,a,w,hn,PO,hR,hS,hv=>by
  simp only [aGZ] at hv
  have hr2:(r || rn.isSome || noRange x)=true/\(r || rn.isSome || noRange y)=true:=by
   simp only [noRange,kW,qC] at hr ⊢
   rcases hr with h | ⟨h1,h2⟩
   ·simp_all
   ·simp_all
  refine aJl (Ph (GV Vn x hr2.1 σ ds H _ Γ a w hn PO hR hS hv) ?_)
  rintro e' a1 w1 ⟨e,σ',CS,H',BU,h1,h2,h3,h4⟩
  cases e with
  | normal=>
   simp only [XR] at h2
   subst h2
   exact Ph (GV Vn y hr2.2 σ' CS H' Q BU a1 w1 h4.2.2.1 (PO.ext h4.2.1) h4.1 h3 h1) fun _ _ _ hq=>CP.trans h4 hq
  | exit i=>simp only [XR] at h2;subst h2;exact MKe
  | goto i=>simp only [XR] at h2;subst h2;exact MKd
  | ret=>simp only [XR] at h2;subst h2;exact MLF
  | panic ch=>simp only [XR] at h2;obtain⟨Gz,rfl,hp⟩:=h2;exact⟨.panic ch,_,_,_,_,h1,MGR,h3,h4⟩
 | .cond c x y,hr,σ,ds,H,Q,Γ,a,w,hn,PO,hR,hS,hv=>by
  simp only [aCM] at hv
  have hr2:(r || rn.isSome || noRange x)=true/\(r || rn.isSome || noRange y)=true:=by
   simp only [noRange,kW,qC] at hr ⊢
   rcases hr with h | ⟨h1,h2⟩
   ·exact⟨.inl h, .inl h⟩
   ·exact⟨.inr h1, .inr h2⟩
  obtain⟨df0,fF,hx0⟩:=hS
  have hc:=NQ hR fF c
  have hS:SX r B Γ H w σ ds N a:=⟨df0,fF,hx0⟩
  split at hv
  ·rename_i e
   rw [e] at hc
   exact tF (t:=true) (Qe hc) (GV Vn x hr2.1 σ ds H Q Γ a w hn PO hR hS hv)
  ·rename_i e
   rw [e] at hc
   exact tF (t:=false) (Qe hc) (GV Vn y hr2.2 σ ds H Q Γ a w hn PO hR hS hv)
  ·exact hv.elim
 | .block id x,hr,σ,ds,H,Q,Γ,a,w,hn,PO,hR,hS,hv=>by
  simp only [tH] at hv
  refine aEE (Ph (GV Vn x MDL σ ds H _ Γ a w hn PO hR hS hv) ?_)
  rintro e' a1 w1 ⟨e,σ',CS,H',BU,h1,h2,h3,h4⟩
  cases e with
  | normal=>simp only [XR] at h2;subst h2;exact MKc
  | exit i=>
   simp only [XR] at h2
   subst h2
   simp only [Exit.inBlock]
   simp only at h1
   split at h1
   ·rename_i hb
    have hb:=qI hb
    rw [qM hb]
    exact MKc
   ·rename_i hb
    rw [qG (by intro e;simp_all)]
    exact MKe
  | goto i=>simp only [XR] at h2;subst h2;exact MKd
  | ret=>simp only [XR] at h2;subst h2;exact MLF
  | panic ch=>simp only [XR] at h2;obtain⟨Gz,rfl,hp⟩:=h2;exact⟨.panic ch,_,_,_,_,h1,MGR,h3,h4⟩
 | .loop x,hr,σ,ds,H,Q,Γ,a,w,hn,PO,hR,hS,hv=>by
  simp only [aCN] at hv
  obtain⟨α,sl,hp,pr,μ,⟨x0,hp0,aQn⟩,aMo⟩:=hv
  obtain⟨Γ0,hS0,hL0⟩:=aQn r B Γ w a hn hR hS
  refine aGa (α:=α) (fun y a1 w1=>pr y/\∃ Cq,SX r B Cq (hp y) w1 (Bh (fun _=>.junk) (sl y)) ds N a1/\Au C n0 Γ H w Cq (hp y) w1) μ x0 ⟨hp0,Γ0,hS0,hL0⟩ ?_
  rintro y a1 w1 ⟨hpy,Cq,hS1,JN⟩
  refine Ph (GV Vn x MDL _ ds (hp y) _ Cq a1 w1 JN.2.2.1 (PO.ext JN.2.1) JN.1 hS1 (aMo y hpy)) ?_
  rintro e' a2 w2 ⟨e,σ',CS,H',BU,h1,h2,h3,h4⟩
  cases e with
  | normal=>
   simp only [XR] at h2
   subst h2
   obtain⟨x',Q6,aOe,GL⟩:=h1
   obtain⟨YT,hS2,Rp⟩:=aOe r B BU w2 a2 h4.2.2.1 h4.1 h3
   exact⟨x',⟨Q6,YT,hS2,(JN.trans h4).trans Rp⟩,GL⟩
  | exit i=>simp only [XR] at h2;subst h2;exact⟨.exit i,_,_,_,_,h1,rfl,h3,JN.trans h4⟩
  | goto i=>simp only [XR] at h2;subst h2;exact⟨.goto i,_,_,_,_,h1,rfl,h3,JN.trans h4⟩
  | ret=>simp only [XR] at h2;subst h2;exact⟨.ret,_,_,_,_,h1,rfl,h3,JN.trans h4⟩
  | panic ch=>simp only [XR] at h2;obtain⟨Gz,rfl,hpp⟩:=h2;exact⟨.panic ch,_,_,_,_,h1,⟨Gz,rfl,hpp⟩,h3,JN.trans h4⟩
 | .rangeFunc f params Fq bd,hr,σ,ds,H,Q,Γ,a,w,hn,PO,hR,hS,hv=>by
  simp only [TP] at hv
  split at hv <;> try exact hv.elim
  rename_i g first cap ef
  obtain⟨df0,fF,hx0⟩:=hS
  obtain⟨fn',Ec,FZ,ef',Ea,Rw,hcap⟩:=Kc (NQ hR fF f) ef
  simp only [FR] at Ea
  subst Ea
  have TM:=aJm hR fF
  -- the one call
  have call:∀ (L:Nat) (q:Pl) (mark:List Deferred) (w1:World) (Cq:Gm) (H1:Hp) (PG:List AD),(Instr.enterLoop b.fn a.tmps params Fq bd b.roundOf).run C.P w=.ok (q.blk,mark) w1->Cq.nm L=some q->L<H1.next ->
    Au C n0 Γ H w Cq H1 w1->Γ.le Cq->SR df0 Cq σ PG N { a with defers:=mark++a.defers }->OZ C N g first cap L σ PG H1 Q->q9 C.P b (.rangeFunc f params Fq bd) (CP C r B n0 N Γ H w Q) a w:=by
   intro L q mark w1 Cq H1 PG he hq GL JN hle hS1 DF
   obtain⟨d,Js,ht,ha⟩:=aAu (C:=C) (w:=w1) (l:=q.blk) ef'
   have Yo:CX Cq (first++[.fn (.yield L) [] []]++cap) (Ec++#[Value.func (.yield q.blk) #[] #[]]++FZ).toList:=by
    simp only [xh]
    refine GY (GY (Cw hle _ _ Rw) ?_) (Cw hle _ _ hcap)
    simp only [CX,VR,FR]
    exact⟨_,_,rfl,⟨.yield q.blk,#[],#[],rfl,⟨q,hq,rfl⟩,rfl,rfl⟩,rfl⟩
   obtain⟨h1,h2⟩:=DF Cq w1 _ JN.1 Yo
   have DY:(⟨(Ec++#[Value.func (.yield q.blk) #[] #[]]++FZ).toList⟩:Array Value)=Ec++#[Value.func (.yield q.blk) #[] #[]]++FZ:=by simp
   rw [DY] at h1 h2
   have hinv:(invoke d.target d.args).run C.P w1=.ok (.enter g (Ec++#[Value.func (.yield q.blk) #[] #[]]++FZ)) w1:=by
    rw [ht,ha]
    exact h1
   exact aEF he Js hinv (h2.mono fun e' w3 hp=>aAv JN ⟨df0,hS1,hx0.tr JN.2.2.2⟩ hq GL hp)
  obtain⟨a0,aR5⟩:∃ a0,a0=w.heap.size:=MX
  split at hv
  ·-- outermost
   simp only [RO] at PO
   have su:=hR.push (ob:=.deferred (some [])) (q:=⟨w.heap.size,0,0,false⟩) (o:=⟨0,false, .df⟩) rfl rfl rfl MIB
   have hSd:=fF.mono (su.le hR)
   have hLl:=su.1.push (ob:=.loop { state:=.ready,pending:=none,fn:=b.fn,tmps:=a.tmps,params:=params,assign:=Fq,body:=bd,defers:=w.heap.size }) (q:=⟨(w.alloc (.deferred (some []))).heap.size,0,0,false⟩) (o:=J7 H.next σ N params Fq bd H.next) rfl rfl rfl
    (by
     simp only [J7,Cv]
     refine⟨trivial,trivial,b.fn,a.tmps,⟨w.heap.size,0,0,false⟩,Vn,heap_alloc_new _ _,?_,?_⟩
     ·exact⟨TM.1,fun t=>EF (Gm.Yp (Gm.le_trans (su.le hR) (Gm.Oa (su.1.fresh _ (qN _)))) _) _ _ (TM.2 t)⟩
     grind [Gm.Bp,Hp.push,Gm.Bq])
   have hL:Au C n0 Γ H w _ _ _:=(su.mono hn).trans (hLl.mono (by grind [Hp.push]))
   have hle:Γ.le _:=Gm.le_trans (su.le hR) (hLl.le su.1)
   refine call (H.next+1) ⟨(w.alloc (.deferred (some []))).heap.size,0,0,false⟩ [{ target:=.collected w.heap.size,args:=#[] }] _ _ _ _ ?_ (Gm.Bq _ _ _) MIX hL hle ?_ hv
   ·rw [PO]
    rfl
   ·refine⟨fF.size,fun t=>EF hle _ _ (fF.tm t),?_⟩
    simp only [kD,kg,Uh]
    refine⟨_,_,rfl,?_,Kg hle fF.df⟩
    simp only [DR]
    refine⟨by rw [hx0.si];grind [noRange],⟨w.heap.size,0,0,false⟩,?_,rfl⟩
    grind [Gm.Bp,Gm.Bq]
  ·-- within a round
   rename_i l
   split at hv <;> try exact hv.elim
   rename_i o ho
   split at hv <;> try exact hv.elim
   rename_i st E5 lim n sg ps G8 bd' dn hc
   obtain⟨hln,q,hq,aQo⟩:=PO
   obtain⟨q',Gp,Em⟩:=hR.Dz l o ho
   rw [hq] at Gp
   injection Gp with eq
   subst eq
   obtain⟨t,fr,c⟩:=o
   simp only at hc
   subst hc
   simp only [Cv] at Em
   obtain⟨BF,Ea,fn0,tm0,qd,aSG,Em,aSH,hdn⟩:=Em
   have hLl:=hR.push (ob:=.loop { state:=.ready,pending:=none,fn:=b.fn,tmps:=a.tmps,params:=params,assign:=Fq,body:=bd,defers:=qd.blk }) (q:=⟨w.heap.size,0,0,false⟩) (o:=J7 H.next σ N params Fq bd dn) rfl rfl rfl
    (by
     simp only [J7,Cv]
     refine⟨trivial,trivial,b.fn,a.tmps,qd,Vn,heap_alloc_new _ _,?_,?_⟩
     ·exact⟨TM.1,fun t=>EF (Gm.Yp (Gm.Oa (hR.fresh _ (qN _))) _) _ _ (TM.2 t)⟩
     ·exact(Gm.Oa (hR.fresh _ (qN _))).nm _ _ hdn)
   refine call H.next ⟨w.heap.size,0,0,false⟩ [] _ _ _ ds ?_ (Gm.Bq _ _ _) MIX (hLl.mono hn) (hLl.le hR) ?_ hv
   ·rw [aQo]
    simp [Instr.enterLoop,Jd Em,newObj,Sem.run]
   ·exact⟨fF.size,fun t=>EF (hLl.le hR) _ _ (fF.tm t),Kg (hLl.le hR) fF.df⟩
 | .scope x,hr,σ,ds,H,Q,Γ,a,w,hn,PO,hR,hS,hv=>by
  simp only [tJ] at hv
  refine aEG (Ph (GV Vn x MDL σ ds H _ Γ a w hn PO hR hS hv) ?_)
  rintro e' a1 w1 ⟨e,σ',CS,H',BU,h1,h2,h3,h4⟩
  cases e with
  | normal=>simp only [XR] at h2;subst h2;exact⟨by simp, .normal,_,_,_,_,h1,rfl,h3,h4⟩
  | exit i=>simp only [XR] at h2;subst h2;exact⟨by simp, .exit i,_,_,_,_,h1,rfl,h3,h4⟩
  | goto i=>exact h1.elim
  | ret=>simp only [XR] at h2;subst h2;exact⟨by simp, .ret,_,_,_,_,h1,rfl,h3,h4⟩
  | panic ch=>simp only [XR] at h2;obtain⟨Gz,rfl,hp⟩:=h2;exact⟨by simp, .panic ch,_,_,_,_,h1,MGR,h3,h4⟩
 | .refuse _,_,_,_,_,_,_,_,_,_,_,_,_,hv=>hv.elim
end
end Go.Proofs.YtkegmchjobphdaaGreatDoor.Y
namespace Go.Proofs.YtkegmchjobphdaaGreatDoor.Y
open Go
section
variable {C:Cx}
def aAs:Sg->List Tmp->List AV->Sg
 | σ,p::ps,v::vs=>aAs (bI σ p v) ps vs
 | σ,_,_=>σ
def TL (L:Nat) (Q:AE->Hp->Prop):KQ:=fun e _ ds H=>
 match ds with
 | []=>match e with
  | .panic ch=>Q (.panicked ch) H
  | e=>match Aq H.l L with
   | some o=>match o.c with
    | .lp .busy _ lim N s ps Fq bd dn=>match e with
     | .normal=>Q (.returned (vB true)) { H with l:=DJ H.l L { o with c:=.lp .ready none lim N s ps Fq bd dn } }
     | .ret=>Q (.returned (vB false)) { H with l:=DJ H.l L { o with c:=.lp .done (some .ret) lim N s ps Fq bd dn } }
     | .exit i=>Q (.returned (vB false)) { H with l:=DJ H.l L { o with c:=.lp .done (some (.exit i)) lim N s ps Fq bd dn } }
     | .goto i=>Q (.returned (vB false)) { H with l:=DJ H.l L { o with c:=.lp .done (some (.goto i)) lim N s ps Fq bd dn } }
     | .panic _=>False
    | _=>False
   | none=>False
 | _=>False
def Yk (C:Cx) (L n0 N:Nat) (bd:Code) (Q:AE->Hp->Prop):KQ:=fun e σ ds H=>
 match e,ds with
 | .normal,[]=>match Aq H.l L with
  | some o=>match o.c with
   | .lp .ready p lim n a b c d dn=>vc C (some L) n0 N bd σ [] { H with l:=DJ H.l L { o with c:=.lp .busy p lim n a b c d dn } } (TL L Q)
   | _=>False
  | none=>False
 | _,_=>False
theorem Yl {Γ:Gm} {N:Nat}:∀ (ps:List Tmp) (vs:List AV) (vs':List Value) (σ:Sg) (tm:Array Value),ps.all (fun p=>Nat.blt p N)=true->CX Γ vs vs'->tm.size=N->(∀ t,VR Γ (σ t) (tm.getD t undef)) ->
  (((ps.zip vs').foldl (fun tmps (x:Tmp × Value)=>tmps.setIfInBounds x.1 x.2) tm).size=N/\∀ t,VR Γ (aAs σ ps vs t) (((ps.zip vs').foldl (fun tmps (x:Tmp × Value)=>tmps.setIfInBounds x.1 x.2) tm).getD t undef))
 | [],vs,vs',σ,tm,_,_,hs,h=>by
  trivial
 | p::ps,[],vs',σ,tm,_,hv,hs,h=>by
  simp only [CX] at hv
  subst hv
  exact⟨hs,h⟩
 | p::ps,v::vs,vs',σ,tm,hp,hv,hs,h=>by
  simp only [CX] at hv
  obtain⟨u,us,rfl,h1,h2⟩:=hv
  simp only [jB,qC] at hp
  have GL:p<N:=by simpa using hp.1
  simp only [List.zip_cons_cons,jG,aAs]
  refine Yl ps vs us _ _ hp.2 h2 (by simp [hs]) fun t=>?_
  rw [kN]
  by_cases e:t=p
  ·grind [Jb]
  ·rw [E9 _ _ e,jF (vW e),<- kN]
   exact h t
theorem Ym {P:Program} {w:World} {l:Nat} {r:Loop} (h:w.heap[l]?=some (.loop r)) (hs:r.state=.ready):(Instr.beginRound l).run P w=.ok () (CL w l (.loop { r with state:=.busy })):=by
 simp [Instr.beginRound,Jd h,Pg (r':={ r with state:=.busy }) h,hs]
theorem mE {P:Program} {w:World} {l:Nat} {r:Loop} (h:w.heap[l]?=some (.loop r)) (j:Option Code):(Instr.endRound l j).run P w=.ok (.bool j.isNone) (CL w l (.loop { r with state:=if j.isNone then .ready else .done,pending:=j })):=by
 have h2:=Pg (P:=P) (r':={ r with state:=if j.isNone then .ready else .done,pending:=j }) h
 simp only [Instr.endRound,Sem.run_bind,Jd h,Result.andThen_ok,h2]
 rfl
theorem aAt {Γ:Gm} {H:Hp} {w:World} {L:Nat} {q:Pl} {t:TypeId} {fr:Bool} {st st':LoopState} {E5 pend':Option Code} {lim N:Nat} {s:Nat->AV} {ps:List Tmp} {Fq bd:Code} {dn:Nat} (h:R C Γ H w) (ho:Aq H.l L=some ⟨t,fr, .lp st E5 lim N s ps Fq bd dn⟩) (hq:Γ.nm L=some q) :
  ∃ fn tm qd,fr=false/\(C.P.funcs[fn]?).isSome=true/\w.heap[q.blk]?=some (.loop { state:=st,pending:=E5,fn:=fn,tmps:=tm,params:=⟨ps⟩,assign:=Fq,body:=bd,defers:=qd })/\(tm.size=N/\∀ t,VR (Γ.cut lim) (s t) (tm.getD t undef)) /\
   Au C H.next Γ H w Γ { H with l:=DJ H.l L ⟨t,fr, .lp st' pend' lim N s ps Fq bd dn⟩ } (CL w q.blk (.loop { state:=st',pending:=pend',fn:=fn,tmps:=tm,params:=⟨ps⟩,assign:=Fq,body:=bd,defers:=qd })):=by
 obtain⟨q',Gp,Em⟩:=h.Dz _ _ ho
 rw [hq] at Gp
 injection Gp with eq
 subst eq
 simp only [Cv] at Em
 obtain⟨BF,Ea,fn,tm,qd,Vn,Em,TM,hdn⟩:=Em
 subst Ea
 refine⟨fn,tm,qd.blk,rfl,Vn,Em,TM,h.bY ho rfl hq BF (o':=⟨t,false, .lp st' pend' lim N s ps Fq bd dn⟩) rfl ?_⟩
 simp only [Cv]
 exact MJZ
theorem GZ {L:Nat} {args:List AV} {H:Hp} {Q:AE->Hp->Prop} {t:TypeId} {fr:Bool} {E5:Option Code} {lim N:Nat} {s:Nat->AV} {ps:List Tmp} {Fq bd:Code} {dn:Nat} (ho:Aq H.l L=some ⟨t,fr, .lp .ready E5 lim N s ps Fq bd dn⟩) (GL:Nat.blt L H.next=true)
  (hl:(Nat.beq args.length ps.length && ps.all (fun p=>Nat.blt p N))=true) (hv:vc C (some L) H.next N Fq (aAs s ps args) [] H (Yk C L H.next N bd Q)):Li C L args H Q:=by
 intro Γ w args' ro hR hA
 simp only [qC] at hl
 have hlen:=qI hl.1
 have GL:L<H.next:=by simpa using GL
 obtain⟨q,hq,_⟩:=hR.Dz _ _ ho
 obtain⟨fn,tm,qd,_,Vn,Em,TM,_⟩:=aAt (st':=.ready) (pend':=none) hR ho hq
 have hal:=BH hA
 refine⟨q,fn,(ps.zip args').foldl (fun tmps (x:Tmp × Value)=>tmps.setIfInBounds x.1 x.2) tm,Fq,bd,hq,?_,⟨trivial,fun c cs _=>?_⟩⟩
 ·have hsz:args'.length=ps.length:=by omega
  simp [Instr.yield,Jd Em,hsz]
 ·let b:Frame:={ (default:Frame) with fn:=fn,kind:=.normal,roundOf:=some q.blk }
  have hbf:(C.P.funcs[b.fn]?).isSome=true:=Vn
  obtain⟨O0,U4⟩:=Yl (Γ:=Γ) ps args args' s tm hl.2 hA TM.1 (fun t=>EF (Gm.aMm Γ lim) _ _ (TM.2 t))
  have hS:SX false (fun _=>True) Γ H w (aAs s ps args) [] N { tmps:=(ps.zip args').foldl (fun tmps (x:Tmp × Value)=>tmps.setIfInBounds x.1 x.2) tm,defers:=[] }:=⟨none,⟨O0,U4,rfl⟩,MF3⟩
  have PO:RO H.next Γ (some L) b.roundOf:=⟨GL,q,hq,rfl⟩
  obtain⟨e1,a1,w1,⟨e,Wo,PG,H1,Cq,hQ1,hX1,hS1,JN⟩,DY⟩:=GV hbf Fq MBV _ [] H _ Γ _ w (qN _) PO hR hS hv [.beginRound, .code bd] (c::cs)
  have hb0:Frame.round q.blk fn ((ps.zip args').foldl (fun tmps (x:Tmp × Value)=>tmps.setIfInBounds x.1 x.2) tm) Fq bd .normal=b.atR { tmps:=(ps.zip args').foldl (fun tmps (x:Tmp × Value)=>tmps.setIfInBounds x.1 x.2) tm,defers:=[] } [.code Fq, .beginRound, .code bd]:=by
   simp [Frame.round,Frame.atR,b]
  rw [<- hb0] at DY
  -- a aR4 is Fq good Fq aQI one
  have conv:∀ {m m':Machine},StepsIn (Machine.fenced C.P (Fz b.roundOf)) C.P m m'->StepsIn (Machine.fenced C.P (Fz ro)) C.P m m':=fun h=>h
  unfold Yk at hQ1
  split at hQ1 <;> try exact hQ1.elim
  simp only [XR] at hX1
  subst hX1
  split at hQ1 <;> try exact hQ1.elim
  rename_i o1 ho1
  split at hQ1 <;> try exact hQ1.elim
  rename_i p1 aSF n1 sg1 ps1 as1 bd1 dn1 hc1
  obtain⟨t1,fr1,c1⟩:=o1
  simp only at hc1
  subst hc1
  have GA:Cq.nm L=some q:=by rw [JN.2.1 L GL];exact hq
  obtain⟨fn1,tm1,qd1,_,_,aQg,_,hLb⟩:=aAt (st':=.busy) (pend':=p1) JN.1 ho1 GA
  have hbr:=Ym (P:=C.P) aQg rfl
  have s1:StepsIn (Machine.fenced C.P (Fz b.roundOf)) C.P (lone (b.atR a1 [.beginRound, .code bd]) (c::cs) w1) (lone (b.atR a1 [.code bd]) (c::cs) _):=.one (BO _) (stepR_beginRound rfl hbr)
  have aMn:Au C H.next Γ H w Cq _ _:=JN.trans (hLb.mono JN.2.2.1)
  obtain⟨df1,aQh,aQi⟩:=hS1
  have aQj:SX false (fun _=>True) Cq _ _ Wo [] N a1:=⟨df1,aQh,aQi.tr hLb.2.2.2⟩
  obtain⟨e2,a2,w2,⟨e',σ2,ds2,H2,YT,YZ,sZ,hS2,Rp⟩,TH⟩:=GV hbf bd MBV Wo [] _ _ Cq a1 _ aMn.2.2.1 (PO.ext aMn.2.1) hLb.1 aQj hQ1 [] (c::cs)
  have Ke:=conv (StepsIn.trans DY s1)
  have aGY:Au C H.next Γ H w YT H2 w2:=aMn.trans Rp
  have QW:YT.nm L=some q:=by rw [aGY.2.1 L GL];exact hq
  unfold TL at YZ
  split at YZ <;> try exact YZ.elim
  obtain⟨df2,aQk,aMg⟩:=hS2
  have p8:=aQk.df
  have hdn:df2=none:=MIF
  subst hdn
  simp only [Uh,Option.getD_none] at p8
  split at YZ
  ·rename_i ch
   simp only [XR] at sZ
   obtain⟨Gz,rfl,hch⟩:=sZ
   obtain⟨todo,hs⟩:=TH
   obtain⟨fnx,hfx⟩:=jH.1 Vn
   refine⟨.panicked Gz,w2,⟨.panicked ch,H2,YT,YZ,⟨Gz,rfl,hch⟩,aGY⟩,StepsIn.trans Ke (StepsIn.trans (conv hs) (.one (BO _) ?_))⟩
   exact step_leave_panicked (fr:={ b.atR a2 todo with mode:=.panicking Gz }) ⟨rfl,p8,fnx,hfx⟩
  ·rename_i e'' hnp
   split at YZ <;> try exact YZ.elim
   rename_i o2 Ws
   split at YZ <;> try exact YZ.elim
   rename_i p2 aQl n2 sg2 ps2 as2 bd2 dn2 bJ
   obtain⟨t2,fr2,c2⟩:=o2
   simp only at bJ
   subst bJ
   -- the end
   have fin:∀ (j:Option Code) (bb:Bool),j.isNone=bb->Q (.returned (vB bb)) { H2 with l:=DJ H2.l L ⟨t2,fr2, .lp (if j.isNone then .ready else .done) j aQl n2 sg2 ps2 as2 bd2 dn2⟩ } ->
     ∃ v w4,(Instr.endRound q.blk j).run C.P w2=.ok v w4/\Fs C Γ H w Q (.returned v) w4:=by
    intro j bb hj hQ
    obtain⟨fn2,tm2,qd2,_,_,aQm,_,hLe⟩:=aAt (st':=if j.isNone then .ready else .done) (pend':=j) aGY.1 Ws QW
    exact⟨_,_,mE (P:=C.P) aQm j, .returned (vB bb),_,YT,hQ,⟨_,rfl,by grind [VR,VP]⟩,aGY.trans (hLe.mono aGY.2.2.1)⟩
   cases e' with
   | normal=>
    simp only [XR] at sZ
    subst sZ
    obtain⟨v,w4,Iq,hR4⟩:=fin none true rfl YZ
    exact⟨.returned v,w4,hR4,StepsIn.trans Ke (StepsIn.trans (conv TH) (.one (BO _) (stepR_round_end rfl rfl Iq)))⟩
   | ret=>
    simp only [XR] at sZ
    subst sZ
    obtain⟨v,w4,Iq,hR4⟩:=fin (some .ret) false rfl YZ
    obtain⟨k₁,hs⟩:=TH.2 rfl
    exact⟨.returned v,w4,hR4,StepsIn.trans Ke (StepsIn.trans (conv hs) (.one (BO _) (stepR_round_ret rfl rfl Iq)))⟩
   | exit i=>
    simp only [XR] at sZ
    subst sZ
    obtain⟨v,w4,Iq,hR4⟩:=fin (some (.exit i)) false rfl YZ
    obtain⟨k₁,hk,hs⟩:=TH.2 rfl rfl
    exact⟨.returned v,w4,hR4,StepsIn.trans Ke (StepsIn.trans (conv hs) (.one (BO _) (stepR_round_exit rfl rfl hk Iq)))⟩
   | goto i=>
    simp only [XR] at sZ
    subst sZ
    obtain⟨v,w4,Iq,hR4⟩:=fin (some (.goto i)) false rfl YZ
    obtain⟨k₁,hk,hs⟩:=TH.2 rfl rfl
    exact⟨.returned v,w4,hR4,StepsIn.trans Ke (StepsIn.trans (conv hs) (.one (BO _) (stepR_round_goto rfl rfl hk Iq)))⟩
   | panic ch=>exact YZ.elim
end
end Go.Proofs.YtkegmchjobphdaaGreatDoor.Y
namespace Go.Proofs.YtkegmchjobphdaaGreatDoor.Y
open Go
inductive Md where
 | ret
 | F7 (ch:List AP)
def MR (Γ:Gm):Md->FrameMode->Prop
 | .ret,m=>m=.returning
 | .F7 ch,m=>∃ Gz,m=.panicking Gz/\Ny Γ ch Gz
theorem aJh {a b:Gm} (h:a.le b) {u:Md} {m:FrameMode} (hm:MR a u m):MR b u m:=by
 cases u with
 | ret=>exact hm
 | F7 ch=>obtain⟨Gz,h1,h2⟩:=hm;exact⟨Gz,h1,Yf h h2⟩
def TJ:Md->Md
 | .F7 (⟨_,true⟩::_)=>.ret
 | m=>m
def XZ (u:Md) (ch:List AP):Md:=
 match u with
 | .F7 old=>.F7 (ch++old)
 | .ret=>.F7 ch
theorem Yg {Γ:Gm}:∀ {a b:List AP} {a' b':List PanicEntry},Ny Γ a a'->Ny Γ b b'->Ny Γ (a++b) (a'++b')
 | [],_,_,_,h,k=>by grind [Ny]
 | p::ps,_,_,_,h,k=>by
  simp only [Ny] at h
  obtain⟨q,qs,rfl,h1,h2⟩:=h
  simp only [kD,Ny]
  exact⟨q,_,rfl,h1,Yg h2 k⟩
theorem Yh {Γ:Gm}:∀ {a:List AP} {a':List PanicEntry},Ny Γ a a'->a'.dropWhile (!·.goexit)=[]
 | [],_,h=>by simp only [Ny] at h;subst h;rfl
 | p::ps,_,h=>by
  simp only [Ny] at h
  obtain⟨q,qs,rfl,h1,h2⟩:=h
  rw [List.dropWhile_cons]
  simp [h1.2.2,Yh h2]
theorem l9 {Γ:Gm} {u:Md} {m:FrameMode} (h:MR Γ u m):MR Γ (TJ u) (settle m):=by
 cases u with
 | ret=>simp only [MR] at h;subst h;rfl
 | F7 ch=>
  obtain⟨Gz,rfl,hc⟩:=h
  match ch,hc with
  | [],hc=>simp only [Ny] at hc;subst hc;exact MH1
  | ⟨v,true⟩::r,hc=>
   simp only [Ny] at hc
   obtain⟨⟨qv,qr,qg⟩,qs,rfl,⟨h1,h2,h3⟩,h4⟩:=hc
   grind [TJ,MR,settle,Yh]
  | ⟨v,false⟩::r,hc=>
   have Wi:=hc
   simp only [Ny] at hc
   obtain⟨⟨qv,qr,qg⟩,qs,rfl,⟨h1,h2,h3⟩,h4⟩:=hc
   simp only at h2
   subst h2
   exact⟨_,rfl,Wi⟩
theorem mD {Γ:Gm} {u:Md} {m:FrameMode} (h:MR Γ u m) {ch:List AP} {Gz:List PanicEntry} (hc:Ny Γ ch Gz):MR Γ (XZ u ch) (raised m Gz):=by
 cases u with
 | ret=>simp only [MR] at h;subst h;exact⟨Gz,rfl,hc⟩
 | F7 old=>
  obtain⟨aQd,rfl,ho⟩:=h
  exact⟨Gz++aQd,rfl,Yg hc ho⟩
section
variable (C:Cx)
def aGO (Γ:Gm) (H:Hp) (w:World) (Q:AE->Md->Hp->Prop) (e':Ending) (m':FrameMode) (w':World):Prop:=
 ∃ e u H' BU,Q e u H'/\ER BU e e'/\MR BU u m'/\Au C H.next Γ H w BU H' w'
def Pd (g:FuncId) (args:List AV) (u:Md) (H:Hp) (Q:AE->Md->Hp->Prop):Prop:=
 ∀ (Γ:Gm) (w:World) (args':List Value) (m:FrameMode),R C Γ H w->CX Γ args args'->MR Γ u m ->
  (callFunc g ⟨args'⟩).run C.P w=.ok (.enter g ⟨args'⟩) w/\CallsDIn (Fz none) 0 C.P g ⟨args'⟩ m w (aGO C Γ H w Q)
def bq:List AV->AV
 | [v]=>v
 | vs=>.GG vs
def Wp (σ:Sg) (H:Hp):List ResultVar->(List AV->Prop)->Prop
 | [],K=>K []
 | .tmp t::r,K=>Wp σ H r fun vs=>K (σ t::vs)
 | .cell a t::r,K=>(Qc C.P t (σ a) (Aq H.l)).bu fun v=>Wp σ H r fun vs=>K (v::vs)
def GX (σ:Sg) (rs:List ResultVar) (Q:AE->Hp->Prop):List AD->Md->Hp->Prop
 | [], .ret,H=>Wp C σ H rs fun vs=>Q (.returned (bq vs)) H
 | [], .F7 ch,H=>Q (.panicked ch) H
 | .Le n::ds,u,H=>match Aq H.l n with
  | some o=>match o.c with
   | .df=>GX σ rs Q ds u { H with l:=HV H.l n }
   | _=>False
  | none=>False
 | .fn g cap args::ds,u,H=>Pd C g (args++cap) u H fun e u' H'=>match e with
  | .returned _=>GX σ rs Q ds (TJ u') H'
  | .panicked ch=>GX σ rs Q ds (XZ u' ch) H'
def Fin (rs:List ResultVar) (Q:AE->Hp->Prop):KQ:=fun e σ ds H=>
 match e with
 | .normal=>GX C σ rs Q ds .ret H
 | .ret=>GX C σ rs Q ds .ret H
 | .panic ch=>GX C σ rs Q ds (.F7 ch) H
 | _=>False
end
def OX (P:Program) (fn:Func) (tmps:Array Value) (Q:Ending->World->Prop):List Deferred->FrameMode->World->Prop
 | [], .returning,w=>∃ v,(results fn tmps).run P w=.ok v w/\Q (.returned v) w
 | [], .panicking chain,w=>Q (.panicked chain) w
 | [], .run,_=>False
 | d::ds,u,w=>u ≠ .run/\((∃ blk w',d={ target:=.collected blk,args:=#[] }/\(Instr.takeDeferred blk).run P w=.ok [] w'/\OX P fn tmps Q ds u w') ∨
   (∃ fv cap f args,d.target=.fn fv cap/\(invoke d.target d.args).run P w=.ok (.enter f args) w /\
    CallsDIn (Fz none) 0 P f args u w fun
     | .returned _,u',w'=>OX P fn tmps Q ds (settle u') w'
     | .panicked chain,u',w'=>OX P fn tmps Q ds (raised u' chain) w'
     | .outgrown,_,_=>False))
theorem Yi {P:Program} {fr:Frame} {cs:List Frame} {w w':World} {blk:Nat} {ds:List Deferred} (hm:fr.mode ≠ .run) (hd:fr.defers={ target:=.collected blk,args:=#[] }::ds)
  (ht:(Instr.takeDeferred blk).run P w=.ok [] w'):step P (lone fr cs w)=.next (lone { fr with defers:=ds } cs w'):=by
 refine step_lone_go ?_
 cases Sl:fr.mode with
 | run=>trivial
 | returning=>simp [stepG,unwind,Sl,hd,Sem.runT_eq,ht]
 | panicking chain=>simp [stepG,unwind,Sl,hd,Sem.runT_eq,ht]
theorem cB {P:Program} {fn:Func} {tmps:Array Value} {Q:Ending->World->Prop}:∀ (ds:List Deferred) (u:FrameMode) (w:World) (fr:Frame) (cs:List Frame),fr.mode=u->fr.defers=ds->fr.tmps=tmps->P.funcs[fr.fn]?=some fn->fr.kind=.normal->OX P fn tmps Q ds u w ->
  ∃ e w' fr',Q e w'/\ComesIn (Machine.fenced P (Fz none)) P (lone fr cs w) (lone fr' cs w') e/\fr'.fn=fr.fn/\fr'.leaving P w' e:=by
 intro ds
 induction ds with
 | nil=>
  intro u w fr cs hu hd ht hf hk h
  cases u with
  | run=>exact h.elim
  | returning=>
   obtain⟨v,hr,hR⟩:=h
   exact⟨.returned v,w,fr,hR,StepsIn.refl _,rfl,hu,hd,hk,fn,hf,ht ▸ hr⟩
  | panicking chain=>exact⟨.panicked chain,w,fr,h,StepsIn.refl _,rfl,hu,hd,fn,hf⟩
 | cons d ds ih=>
  intro u w fr cs hu hd ht hf hk h
  obtain⟨Jc,⟨blk,w1,rfl,aQe,h⟩ | ⟨fv,cap,f,args,aQf,hinv,_,aGV⟩⟩:=h
  ·have h1:=Yi (cs:=cs) (hu ▸ Jc) hd aQe
   obtain⟨e',w'',fr',hR',hs',aAr,TK⟩:=ih u w1 { fr with defers:=ds } cs hu rfl ht hf hk h
   exact⟨e',w'',fr',hR',ComesIn.of_steps (.one (BO _) h1) hs',aAr,TK⟩
  ·have h1:=step_defer (cs:=cs) (hu ▸ Jc) hd aQf hinv
   obtain⟨e,u',w',frX,hR,Ke,hkX,hfX,hgo⟩:=aGV { fr with defers:=ds } cs hu (TG _ _)
   cases e with
   | returned v=>
    have h2:=step_going_returned (c:={ { fr with defers:=ds } with mode:=u' }) (cs:=cs) hkX hgo
    obtain⟨e',w'',fr',hR',hs',aAr,TK⟩:=ih (settle u') w' { { { fr with defers:=ds } with mode:=u' } with mode:=settle u' } cs rfl rfl ht hf hk hR
    exact MFs
   | panicked chain=>
    have h2:=step_going_panicked (c:={ { fr with defers:=ds } with mode:=u' }) (cs:=cs) hgo
    obtain⟨e',w'',fr',hR',hs',aAr,TK⟩:=ih (raised u' chain) w' { { { fr with defers:=ds } with mode:=u' } with mode:=raised u' chain } cs rfl rfl ht hf hk hR
    exact MFs
   | outgrown=>exact hR.elim
section
variable {C:Cx}
theorem OP {Γ:Gm} {H:Hp} {w:World} {σ:Sg} {ds:List AD} {N:Nat} {a:Act} {df0:Option (List Deferred)} (hR:R C Γ H w) (hS:SR df0 Γ σ ds N a):∀ {rs:List ResultVar} {K:List AV->Prop},Wp C σ H rs K ->
  ∃ vs vs',K vs/\CX Γ vs vs'/\(rs.mapM (fun r=>match r with | .tmp t=>pure (a.tmps.getD t undef) | .cell x t=>do loadVar t (<- asAddr (a.tmps.getD x undef)):ResultVar->Sem Value)).run C.P w=.ok vs' w
 | [],K,h=>⟨[],[],h,rfl,rfl⟩
 | .tmp t::r,K,h=>by
  simp only [Wp] at h
  obtain⟨vs,vs',h1,h2,h3⟩:=OP hR hS h
  refine⟨_,a.tmps.getD t undef::vs',h1,⟨_,_,rfl,hS.tm t,h2⟩,?_⟩
  simp_all
 | .cell x t::r,K,h=>by
  simp only [Wp] at h
  obtain⟨v,hy,h⟩:=Ba.YY h
  obtain⟨vs,vs',h1,h2,h3⟩:=OP hR hS h
  obtain⟨v',h4,h5⟩:=Yj hR (hS.tm x) hy
  refine⟨_,v'::vs',h1,⟨_,_,rfl,h5,h2⟩,?_⟩
  rw [zl]
  have hl:(do loadVar t (<- asAddr (a.tmps.getD x undef)):Sem Value).run C.P w=.ok v' w:=by
   generalize a.tmps.getD x undef=p at h4 ⊢
   unfold Instr.loadAt at h4
   cases p with
   | pointer q=>cases q with
    | none=>trivial
    | some q=>trivial
   | _=>trivial
  simp only [Sem.run_bind] at hl ⊢
  simp_all
def GG:List Value->Value
 | [v]=>v
 | vs=>.tuple ⟨vs⟩
theorem Vz {P:Program} {fn:Func} {tmps:Array Value} {w:World} {vs':List Value}
  (h:(fn.results.toList.mapM (fun r=>match r with | .tmp t=>pure (tmps.getD t undef) | .cell x t=>do loadVar t (<- asAddr (tmps.getD x undef)):ResultVar->Sem Value)).run P w=.ok vs' w) :
  (results fn tmps).run P w=.ok (GG vs') w:=by
 obtain⟨rs,hrs⟩:∃ rs,fn.results=⟨rs⟩:=⟨fn.results.toList,by simp⟩
 rw [hrs] at h
 simp only at h
 have e:∀ (g:ResultVar->Sem Value),(∀ r,g r=(match r with | .tmp t=>pure (tmps.getD t undef) | .cell x t=>do loadVar t (<- asAddr (tmps.getD x undef))))->(rs.mapM g).run P w=.ok vs' w:=by
  intro g hg
  rw [show g=(fun r=>match r with | .tmp t=>pure (tmps.getD t undef) | .cell x t=>do loadVar t (<- asAddr (tmps.getD x undef))) from funext hg]
  exact h
 have fin:∀ (g:ResultVar->Sem Value),(rs.mapM g).run P w=.ok vs' w->(do let vs <- (⟨rs⟩:Array ResultVar).mapM g;pure (if h:vs.size=1 then vs[0] else .tuple vs):Sem Value).run P w=.ok (GG vs') w:=by
  intro g hg
  rw [List.mapM_toArray]
  simp [hg]
  match vs' with
  | []=>rfl
  | [v]=>rfl
  | v1::v2::r=>simp [GG]
 unfold results
 grind
theorem aGQ {Γ:Gm} {vs:List AV} {vs':List Value} (h:CX Γ vs vs'):VR Γ (bq vs) (GG vs'):=by
 match vs,h with
 | [],h=>simp only [CX] at h;subst h;simp only [bq,VR,GG];exact⟨_,rfl,rfl⟩
 | [v],h=>
  simp only [CX] at h
  obtain⟨u,us,rfl,h1,rfl⟩:=h
  exact h1
 | v1::v2::r,h=>
  have h':=h
  simp only [CX] at h
  obtain⟨u,us,rfl,h1,u2,us2,rfl,h2,h3⟩:=h
  simp only [bq,VR]
  exact⟨_,rfl,h'⟩
theorem NT {P:Program} {w:World} {b:Nat} (h:w.heap[b]?=some (.deferred (some []))):(Instr.takeDeferred b).run P w=.ok [] (CL w b (.deferred none)):=by
 simp only [Instr.takeDeferred,getObj,setObj,Sem.run_bind,Sem.run,h,Result.andThen_ok,CL]
 rfl
theorem R.drop {Γ:Gm} {H:Hp} {w:World} (h:R C Γ H w) {n:Nat} {o:Ag} {q:Pl} {x:Obj} (hn:Aq H.l n=some o) (Ea:o.fr=false) (hq:Γ.nm n=some q) (BF:q.nl=false) :
  Au C H.next Γ H w Γ { H with l:=HV H.l n } (CL w q.blk x):=by
 have aGW:RJ Γ H q.blk:=MHq
 refine⟨⟨h.Jq,h.fresh,fun b arr Qd=>?_,fun m p hp=>?_,fun m p q1 hp=>h.own m p q1 (Bc.1 hp).2,fun m p m' p' q1 q2 hp Q6=>h.apart m p m' p' q1 q2 (Bc.1 hp).2 (Bc.1 Q6).2⟩,Ext.refl _ _,qN _,⟨rfl,rfl,rfl,by simp [CL],fun k hk Bt=>Dv (fun e=>Bt (e ▸ aGW)),fun k hk=>?_,FW.le_refl _,fun k a hk=>.inl hk⟩⟩
 ·exact MEx
 ·obtain⟨ES,hp⟩:=Bc.1 hp
  exact MEf
 ·obtain⟨m,p,q1,h1,h2⟩:=hk
  exact .inr ⟨m,p,q1,(Bc.1 h1).2,h2⟩
theorem Cv.deferred {P:Program} {Γ:Gm} {w:World} {q:Pl} {o:Ag} {l:Option (List Deferred)} (h:Cv P Γ w q o) (BF:q.nl=false) (hb:w.heap[q.blk]?=some (.deferred l)):o.fr=false:=by
 by_cases hc:BV o.c=true
 ·rw [BA hc] at h
  rcases h with h | ⟨_,us,rest,z,h1,_⟩
  ·simp_all
  simp_all
 ·obtain⟨t,fr,c⟩:=o
  cases c <;> first | exact absurd rfl hc | (simp only [Cv] at h;exact h.2.1)
theorem R.aMl {Γ:Gm} {H:Hp} {w:World} (h:R C Γ H w) {b:Nat} {x:Obj} (Bt:¬ RJ Γ H b) (hb:w.heap[b]?=some (.deferred (some []))):R C Γ H (CL w b x):=by
 refine⟨h.Jq,h.fresh,fun k arr Qd=>?_,fun m p hp=>?_,h.own,h.apart⟩
 ·obtain⟨t,z,e⟩:=h.Io k arr Qd
  grind [Dv]
 ·obtain⟨q1,e1,e2⟩:=h.Dz m p hp
  refine⟨q1,e1,e2.ext (Gm.le_refl _) fun hl=>Dv fun e'=>?_⟩
  subst e'
  exact Bt ⟨m,p,q1,hp,e2.deferred hl hb,e1,hl,rfl⟩
theorem aEC {n0:Nat} {Γ0 Γ:Gm} {H0 H:Hp} {w0 w:World} {b:Nat} {x:Obj} (hL:Au C n0 Γ0 H0 w0 Γ H w) (hB:w0.heap.size<=b∨RJ Γ0 H0 b) (Bt:¬ RJ Γ H b) (hb:w.heap[b]?=some (.deferred (some []))):Au C n0 Γ0 H0 w0 Γ H (CL w b x):=by
 obtain⟨h1,h2,h3,t⟩:=hL
 refine⟨h1.aMl Bt hb,h2,h3,⟨t.os,t.tape,t.output,by simpa [CL] using t.size,fun k hk hn=>?_,t.Wn,t.fz,t.Lh⟩⟩
 rw [Dv (fun e'=>?_)]
 ·exact t.kept k hk hn
 grind
theorem fE {fn:Func} {tmps:Array Value} {Q:Ending->World->Prop} {m:FrameMode} {n0:Nat} {Γ0 Γ:Gm} {H0 H:Hp} {w0:World} (hmr:m ≠ .run):∀ (bs:List Nat) (w:World),bs.Nodup->(∀ b∈bs,(w0.heap.size<=b∨RJ Γ0 H0 b)/\¬ RJ Γ H b/\w.heap[b]?=some (.deferred (some [])))->Au C n0 Γ0 H0 w0 Γ H w ->
  (∀ w',Au C n0 Γ0 H0 w0 Γ H w'->OX C.P fn tmps Q [] m w')->OX C.P fn tmps Q (bs.map aED) m w
 | [],w,_,_,hL,hK=>hK w hL
 | b::bs,w,hnd,hb,hL,hK=>by
  obtain⟨k1,k2,k3⟩:=hb b (kC ..)
  rw [zA] at hnd
  refine⟨hmr, .inl ⟨b,_,rfl,NT k3,?_⟩⟩
  refine fE hmr bs _ hnd.2 (fun c hc=>?_) (aEC hL k1 k2 k3) hK
  grind [Dv]
theorem LP {df0:Option (List Deferred)} {fn:Func} {σ:Sg} {N:Nat} {Q:AE->Hp->Prop} {Γ0:Gm} {H0:Hp} {w0:World}:∀ (ds:List AD) (u:Md) (H:Hp) (Γ:Gm) (w:World) (a:Act) (m:FrameMode),GX C σ fn.results.toList Q ds u H->R C Γ H w->SR df0 Γ σ ds N a->HX true (fun k=>w0.heap.size<=k∨RJ Γ0 H0 k) df0 Γ H w->MR Γ u m->Au C H0.next Γ0 H0 w0 Γ H w->OX C.P fn a.tmps (Fs C Γ0 H0 w0 Q) a.defers m w
 | [],u,H,Γ,w,a,m,hl,hR,hS,hX,hM,hL=>by
  have p8:=hS.df
  simp only [Uh] at p8
  obtain⟨bs,ebs,hnd,hbs⟩:=hX.hid
  rw [p8,ebs]
  have hmr:m ≠ .run:=by
   exact ME4
  refine fE hmr bs w hnd (fun b hb=>⟨(hbs b hb).1,(hbs b hb).2.2.1,(hbs b hb).2.2.2⟩) hL fun w' hL'=>?_
  cases u with
  | ret=>
   simp only [MR] at hM
   subst hM
   simp only [GX] at hl
   obtain⟨vs,vs',k1,k2,k3⟩:=OP hL'.1 hS hl
   exact⟨GG vs',Vz k3,_,H,Γ,k1,⟨_,rfl,aGQ k2⟩,hL'⟩
  | F7 ch=>
   obtain⟨Gz,rfl,hc⟩:=hM
   simp only [GX] at hl
   exact⟨_,H,Γ,hl,⟨Gz,rfl,hc⟩,hL'⟩
 | .Le n::ds,u,H,Γ,w,a,m,hl,hR,hS,hX,hM,hL=>by
  have p8:=hS.df
  simp only [Uh,DR] at p8
  obtain⟨d,dd,SL,⟨_,q,hq,rfl⟩,hds⟩:=p8
  rw [SL]
  simp only [GX] at hl
  split at hl <;> try exact hl.elim
  rename_i o ho
  split at hl <;> try exact hl.elim
  rename_i hc
  obtain⟨q',Gp,Em⟩:=hR.Dz n o ho
  rw [hq] at Gp
  injection Gp with eq
  subst eq
  obtain⟨t,fr,c⟩:=o
  simp only at hc
  subst hc
  simp only [Cv] at Em
  obtain⟨BF,Ea,Em⟩:=Em
  have aGX:=hR.drop (x:=.deferred none) ho Ea hq BF
  have hmr:m ≠ .run:=by
   exact ME4
  refine⟨hmr, .inl ⟨q.blk,_,rfl,NT Em,?_⟩⟩
  exact LP ds u _ Γ _ { a with defers:=dd } m hl aGX.1 ⟨hS.size,hS.tm,hds⟩ (hX.tr aGX.2.2.2) hM (hL.trans (aGX.mono hL.2.2.1))
 | .fn g cap args::ds,u,H,Γ,w,a,m,hl,hR,hS,hX,hM,hL=>by
  have p8:=hS.df
  simp only [Uh,DR] at p8
  obtain⟨d,dd,SL,⟨FZ,args',rfl,h1,h2⟩,hds⟩:=p8
  rw [SL]
  simp only [GX] at hl
  have hmr:m ≠ .run:=by
   exact ME4
  obtain⟨k1,k2⟩:=hl Γ w (args'++FZ).toList m hR (by grind [GY]) hM
  have DY:(⟨(args'++FZ).toList⟩:Array Value)=args'++FZ:=by simp
  rw [DY] at k1 k2
  refine⟨hmr, .inr ⟨.func g,FZ,g,args'++FZ,rfl,k1,k2.mono ?_⟩⟩
  rintro e' m' w' ⟨e,u',H',BU,hq,hE,hM',hL'⟩
  have Yd:=hL.trans (hL'.mono hL.2.2.1)
  have hX':=hX.tr hL'.2.2.2
  have hS':SR df0 BU σ ds N { a with defers:=dd }:=⟨hS.size,fun t=>EF (hL'.le hR) _ _ (hS.tm t),Kg (hL'.le hR) hds⟩
  cases e with
  | returned v=>
   obtain⟨v',rfl,_⟩:=hE
   exact LP ds (TJ u') H' BU w' { a with defers:=dd } _ hq hL'.1 hS' hX' (l9 hM') Yd
  | panicked ch=>
   obtain⟨Gz,rfl,hch⟩:=hE
   exact LP ds (XZ u' ch) H' BU w' { a with defers:=dd } _ hq hL'.1 hS' hX' (mD hM' hch) Yd
def Ru:Nat->List AV->List (Nat × AV)
 | _,[]=>[]
 | k,v::vs=>(k,v)::Ru (k+1) vs
theorem sw:∀ (args:List AV) (k:Nat) (t:Nat),Bh (fun _=>Bv) (Ru k args) t=if k<=t then args.getD (t - k) Bv else Bv
 | [],k,t=>by simp [Ru,Bh]
 | v::vs,k,t=>by
  simp only [Ru,Bh]
  by_cases e:t=k
  ·grind [Jb]
  ·rw [E9 _ _ e,sw vs (k+1) t]
   grind
theorem run_enter {P : Program} {f : FuncId} {fn : Func} {c : Code} (hf : P.funcs[f]? = some fn) (hname : (fn.name == "runtime.NumGoroutine") = false) (hb : fn.body = some c) (args : Array Value) (w : World) :
  (callFunc f args).run P w=.ok (.enter f args) w:=by
 have h1 : fn.name ≠ "runtime.NumGoroutine" := by simpa using hname
 simp [callFunc,hf,h1,hb]
theorem sV {df0:Option (List Deferred)} (h0:[]=df0.getD []) {Γ:Gm} {args:List AV} {args':List Value} {n:Nat} (hA:CX Γ args args') (hN:args.length<=n):SR df0 Γ (Bh (fun _=>Bv) (Ru 0 args)) [] n { tmps:=(⟨args'⟩:Array Value)++Array.replicate (n - args'.length) undef,defers:=[] }:=by
 have hlen:=BH hA
 refine⟨MEL,fun t=>?_,h0⟩
 rw [sw,qM (qL _),jk,kN,Array.getElem?_append]
 simp only [List.size_toArray,jA]
 rw [qK]
 by_cases ht:t<args'.length
 ·rw [qM ht]
  grind [OY]
 ·rw [qG ht,kv ME]
  have:((Array.replicate (n - args'.length) undef)[t - args'.length]?).getD undef=undef:=by
   rw [zx]
   split <;> rfl
  grind [IQ]
theorem O9.aOd {n0 N:Nat} {σ σ':Sg} {CS:List AD} {H H':Hp} (n:Nat) {t:TypeId} (ho:Aq H.l n=some ⟨t,false, .df⟩) (h:O9 C n0 N σ [] { H with l:=HV H.l n } σ' CS H'):O9 C n0 N σ [.Le n] H σ' CS H':=by
 rintro r B Γ w a hn hR ⟨df0,hs,hx⟩
 have p8:=hs.df
 simp only [Uh,DR] at p8
 obtain⟨u,us,SL,⟨OQ,q,hq,rfl⟩,PD⟩:=p8
 obtain⟨q',Gp,Em⟩:=hR.Dz n _ ho
 rw [hq] at Gp
 injection Gp with eq
 subst eq
 simp only [Cv] at Em
 obtain⟨BF,_,Em⟩:=Em
 have U1:RJ Γ H q.blk:=⟨n,_,q,ho,rfl,hq,BF,rfl⟩
 have U3:∀ k,RJ Γ { H with l:=HV H.l n } k->RJ Γ H k:=fun k ⟨m,p,q1,h1,h2⟩=>⟨m,p,q1,(Bc.1 h1).2,h2⟩
 have Bt:¬ RJ Γ { H with l:=HV H.l n } q.blk:=fun ⟨m,p,q1,h1,h2,h3,h4,h5⟩=>
  hR.apart m p n _ q1 q (Bc.1 h1).2 ho (Bc.1 h1).1 h3 hq h2 h4 BF h5
 have hR':R C Γ { H with l:=HV H.l n } w:=⟨hR.Jq,hR.fresh,hR.Io,fun m p hp=>hR.Dz m p (Bc.1 hp).2,fun m p q1 hp=>hR.own m p q1 (Bc.1 hp).2,fun m p m' p' q1 q2 hp Q6=>hR.apart m p m' p' q1 q2 (Bc.1 hp).2 (Bc.1 Q6).2⟩
 have hL:Au C n0 Γ H w Γ { H with l:=HV H.l n } w:=MEd
 obtain⟨bs,ebs,hnd,hbs⟩:=hx.hid
 have GL:q.blk<w.heap.size:=by
  exact MJs
 obtain⟨BU,h1,h2⟩:=h r B Γ w a hn hR' ⟨some (aED q.blk::us),⟨hs.size,hs.tm,MDL⟩,
  ⟨by rw [<- hx.si,OQ];rfl,⟨q.blk::bs,MAe,zA.2 ⟨fun hm=>(hbs _ hm).2.2.1 U1,hnd⟩,fun b hb=>by
   rcases qw.1 hb with rfl | hb
   ·exact⟨hx.own _ U1,GL,Bt,Em⟩
   grind⟩,fun k hk=>hx.own k (U3 k hk),hx.size⟩⟩
 exact⟨BU,h1,hL.trans h2⟩
theorem holds_of_vc {f : FuncId} {fn : Func} {c : Code} {args : List AV} {H : Hp} {Q : AE -> Hp -> Prop} (hf : C.P.funcs[f]? = some fn) (hname : (fn.name == "runtime.NumGoroutine") = false) (hb : fn.body = some c)
  (hN:Nat.ble args.length fn.ntmps=true) (hv:vc C none H.next fn.ntmps c (Bh (fun _=>Bv) (Ru 0 args)) [] H (Fin C fn.results.toList Q)):A7 C f args H Q:=by
 intro Γ w args' hR hA
 have hlen:=BH hA
 refine⟨run_enter hf hname hb _ _,(callsIn_wide (n:=0)).1 ⟨trivial,fun cs _=>?_⟩⟩
 let b:Frame:={ (default:Frame) with fn:=f,kind:=.normal,roundOf:=none }
 have hbf:(C.P.funcs[b.fn]?).isSome=true:=MJu
 have Uz:Frame.enter C.P f ⟨args'⟩ .normal=b.atR { tmps:=(⟨args'⟩:Array Value)++Array.replicate (fn.ntmps - args'.length) undef,defers:=[] } [.code c]:=by
  simp [Frame.enter,Frame.atR,hf,hb,b]
 have hS:SX true (fun k=>w.heap.size<=k∨RJ Γ H k) Γ H w _ _ _ _:=⟨some [],sV rfl (n:=fn.ntmps) hA (qp hN),⟨rfl,⟨[],rfl,zo,fun b hb=>by cases hb⟩,fun k h=>.inr h,fun k h=>.inl h⟩⟩
 obtain⟨e1,a',w',⟨e,σ',CS,H',BU,h1,h2,⟨df0,h3,hx3⟩,h4⟩,DY⟩:=GV (r:=true) (rn:=none) (n0:=H.next) hbf c MBV _ [] H _ Γ _ w (qN _) rfl hR hS hv [] cs
 rw [<- Uz] at DY
 have fin:∀ (u:Md) (m:FrameMode) (todo:List Item),GX C σ' fn.results.toList Q CS u H'->MR BU u m->StepsIn (Machine.fenced C.P (Fz none)) C.P (lone (Frame.enter C.P f ⟨args'⟩ .normal) cs w) (lone { b.atR a' todo with mode:=m } cs w') ->
   ∃ e w'' fr,Fs C Γ H w Q e w''/\ComesIn (Machine.fenced C.P (Fz none)) C.P (lone (Frame.enter C.P f ⟨args'⟩ .normal) cs w) (lone fr cs w'') e/\fr.fn=f/\fr.leaving C.P w'' e:=by
  intro u m todo hl hm hs
  have:=LP CS u H' BU w' a' m hl h4.1 h3 hx3 hm h4
  obtain⟨e',w'',fr',hR',hs',aAr,TK⟩:=cB (P:=C.P) a'.defers m w' { b.atR a' todo with mode:=m } cs rfl rfl rfl hf rfl this
  exact⟨e',w'',fr',hR',ComesIn.of_steps hs hs',aAr,TK⟩
 cases e with
 | normal=>
  simp only [XR] at h2;subst h2
  exact fin .ret .returning [] h1 rfl (StepsIn.trans DY (.one (BO _) (stepR_end rfl)))
 | ret=>
  simp only [XR] at h2;subst h2
  obtain⟨todo,hs⟩:=DY.1 rfl
  exact fin .ret .returning todo h1 rfl hs
 | panic ch=>
  simp only [XR] at h2
  obtain⟨Gz,rfl,hp⟩:=h2
  obtain⟨todo,hs⟩:=DY
  exact fin (.F7 ch) (.panicking Gz) todo h1 MGR hs
 | exit i=>exact h1.elim
 | goto i=>exact h1.elim
end
end Go.Proofs.YtkegmchjobphdaaGreatDoor.Y
