/- Part 2 of the proof: Yb Yc Yd Ye Ydk Yf Yg Yh -/
import Derived.Laws.StructEq
import Derived.LaidEql
import Derived.Laws.BytesString
import Derived.Lib.Builder
import Derived.Test.YtkegmchjobphdaaGreatDoorQ1
namespace Go.Proofs.YtkegmchjobphdaaGreatDoor.Y
open Go
section
variable {α:Type}
def Nf:List α->Nat->Option (List α)
 | _,0=>some []
 | [],_+1=>none
 | x::l,n+1=>match Nf l n with
  | some r=>some (x::r)
  | none=>none
termination_by structural _ n=>n
def LD:List α->Nat->Nat->Option (List α)
 | l,0,n=>Nf l n
 | [],_+1,_=>none
 | _::l,k+1,n=>LD l k n
termination_by structural _ k _=>k
def Ww:List α->List α->List α
 | l,[]=>l
 | [],_::_=>[]
 | _::l,v::vs=>v::Ww l vs
termination_by structural _ vs=>vs
def Fv:List α->Nat->List α->List α
 | l,0,vs=>Ww l vs
 | [],_+1,_=>[]
 | x::l,k+1,vs=>x::Fv l k vs
termination_by structural _ k _=>k
def nth:List α->Nat->Option α
 | [],_=>none
 | x::_,0=>some x
 | _::l,n+1=>nth l n
theorem Hw (l:List α) (n:Nat):nth l n=l[n]?:=by
 induction l generalizing n with
 | nil=>rfl
 | cons x l ih=>cases n with
  | zero=>rfl
  | succ n=>grind [nth]
theorem ZQ:∀ {l:List α} {n:Nat} {r:List α},Nf l n=some r->r=l.take n/\r.length=n/\n<=l.length
 | l,0,r,h=>by grind [Nf]
 | [],n+1,r,h=>by simp [Nf] at h
 | x::l,n+1,r,h=>by
  simp only [Nf] at h
  cases hg:Nf l n with
  | none=>rw [hg] at h;cases h
  | some r'=>
   rw [hg] at h
   injection h with h
   subst h
   obtain⟨h1,h2,h3⟩:=ZQ hg
   exact⟨by rw [h1];simp,by simp [h2],MEL⟩
theorem mQ:∀ {l:List α} {k n:Nat} {r:List α},LD l k n=some r->r=(l.drop k).take n/\r.length=n/\k+n<=l.length
 | l,0,n,r,h=>by
  grind [LD,ZQ]
 | [],k+1,n,r,h=>by simp [LD] at h
 | x::l,k+1,n,r,h=>by
  simp only [LD] at h
  obtain⟨h1,h2,h3⟩:=mQ h
  exact⟨MJ5,h2,MEL⟩
theorem NZ {l:List α} {k n:Nat} {r:List α} (h:LD l k n=some r):r=(l.drop k).take n/\r.length=n/\(0<n->k+n<=l.length):=
 let ⟨h1,h2,h3⟩:=mQ h;⟨h1,h2,fun _=>h3⟩
theorem WH:∀ (l vs:List α),(Ww l vs).length=l.length
 | l,[]=>by simp [Ww]
 | [],_::_=>by simp [Ww]
 | x::l,v::vs=>by simp [Ww,WH l vs]
theorem Ep:∀ (l:List α) (k:Nat) (vs:List α),(Fv l k vs).length=l.length
 | l,0,vs=>WH l vs
 | [],k+1,_=>by simp [Fv]
 | x::l,k+1,vs=>by simp [Fv,Ep l k vs]
theorem wI:∀ (l vs:List α) (i:Nat),(Ww l vs)[i]?=if i<vs.length/\i<l.length then vs[i]? else l[i]?
 | l,[],i=>by simp [Ww]
 | [],v::vs,i=>by simp [Ww]
 | x::l,v::vs,0=>by simp [Ww]
 | x::l,v::vs,i+1=>by
  simp only [Ww,xW,wI l vs i]
  simp
theorem GI:∀ (l:List α) (k:Nat) (vs:List α) (i:Nat),
  (Fv l k vs)[i]?=if k<=i/\i<k+vs.length/\i<l.length then vs[i - k]? else l[i]?
 | l,0,vs,i=>by
  simp only [Fv,wI,ql,qL,zL,jk]
 | [],k+1,vs,i=>by simp [Fv]
 | x::l,k+1,vs,0=>by simp [Fv]
 | x::l,k+1,vs,i+1=>by
  simp only [Fv,xW,GI l k vs i]
  have:(k+1<=i+1/\i+1<k+1+vs.length/\i+1<(x::l).length) ↔ (k<=i/\i<k+vs.length/\i<l.length):=by simp;omega
  simp only [this]
  have e:i+1 - (k+1)=i - k:=by omega
  rw [e]
theorem Ql (l:List α) (k:Nat) (v:α):Fv l k [v]=l.set k v:=by
 apply kU
 intro i
 rw [GI,jg]
 grind
theorem mR {l:List α} {k:Nat} {vs:List α} (h:k+vs.length<=l.length):Fv l k vs=l.take k++vs++l.drop (k+vs.length):=by
 apply kU
 intro i
 rw [GI]
 grind
theorem WB (l:List α) (k:Nat) (v:α) (vs:List α):Fv (l.set k v) (k+1) vs=Fv l k (v::vs):=by
 apply kU
 intro i
 rw [GI,GI,jg]
 grind
end
theorem aCZ {Γ:Gm} {l vs:List AV} {l' vs':List Value} (k:Nat) (h:CX Γ l l') (hv:CX Γ vs vs'):CX Γ (Fv l k vs) (Fv l' k vs'):=by
 have hl:=BH h
 have hlv:=BH hv
 refine aG0 (by grind [Ep]) fun j v hj=>?_
 rw [GI] at hj ⊢
 split at hj
 ·rename_i bV
  rw [qM ME]
  exact OY hv hj
 ·rename_i bV
  rw [qG ME]
  exact OY h hj
theorem Seg.get {arr us:List Value} {o:Nat} (h:Seg arr o us) {j:Nat} {v:Value} (hj:us[j]?=some v):arr[o+j]?=some v:=by
 obtain⟨pre,post,rfl,rfl,_⟩:=h
 grind
theorem Seg.sub {arr us:List Value} {o:Nat} (h:Seg arr o us) (k n:Nat) (hk:k<=us.length):Seg arr (o+k) ((us.drop k).take n):=by
 obtain⟨pre,post,rfl,rfl,hp⟩:=h
 refine⟨pre++us.take k,(us.drop k).drop n++post,?_,MEL,fun u hu=>hp u (vC (kQ hu))⟩
 simp only [qO]
 congr 1
 rw [<- qO ((us.drop k).take n),kE,<- qO,kE]
theorem Seg.plain {arr us:List Value} {o:Nat} (h:Seg arr o us):∀ u∈us,CZ u=true:=by
 obtain⟨pre,post,_,_,hp⟩:=h;exact hp
section
variable {P:Program} {w:World}
theorem Jh (a:Addr) (h:a.spot=none) (n:Nat):a.add n=⟨a.block,a.off+n,none⟩:=by
 obtain⟨b,o,s⟩:=a
 grind [Addr.add]
theorem Tk (b o:Nat):∀ (vs:List Value) (i:Nat) (acc:Array Value),(∀ (j:Nat) (v:Value),vs[j]?=some v->w.cell? ⟨b,o+i+j,none⟩=some v) ->
  (loadCellsFrom ⟨b,o,none⟩ i vs.length acc).run P w=.ok (acc++⟨vs⟩) w
 | [],i,acc,_=>by rfl
 | v::vs,i,acc,h=>by
  have h0:=h 0 v (by simp)
  have hr:=Tk b o vs (i+1) (acc.push v) (fun j u hj=>by
   have:=h (j+1) u (by simpa using hj)
   grind)
  have e:(acc.push v++(⟨vs⟩:Array Value))=acc++⟨v::vs⟩:=by
   apply vK
   simp
  rw [e] at hr
  show(Sem.bind (load _) _).run P w=_
  rw [Jh _ rfl]
  grind [load,Sem.bind,Sem.run]
theorem Qi (b o:Nat) (vs:List Value) (h:∀ (j:Nat) (v:Value),vs[j]?=some v->w.cell? ⟨b,o+j,none⟩=some v) :
  (loadCells ⟨b,o,none⟩ vs.length).run P w=.ok ⟨vs⟩ w:=by
 grind [Tk,loadCells]
def CL (w:World) (b:Nat) (o:Obj):World:={ w with heap:=w.heap.setIfInBounds b o }
theorem D5 {b:Nat} {o o':Obj} (h:w.heap[b]?=some o):(CL w b o').heap[b]?=some o':=by
 grind [CL]
theorem Dv {b k:Nat} {o':Obj} (h:k ≠ b):(CL w b o').heap[k]?=w.heap[k]?:=by
 simp [CL,Array.getElem?_setIfInBounds_ne (Ne.symm h)]
theorem ZR {b i:Nat} {arr:Array Value} {t:TypeId} {fz:Nat × Nat} {v:Value} (h:w.heap[b]?=some (.cells arr t fz)) :
  w.setCell ⟨b,i,none⟩ v=CL w b (.cells (arr.setIfInBounds i v) t fz):=by
 have hb:b<w.heap.size:=(xK.1 h).1
 unfold World.setCell CL
 congr 1
 grind
theorem dJ {b:Nat} {o o':Obj}:CL (CL w b o) b o'=CL w b o':=by
 simp [CL,Array.setIfInBounds_setIfInBounds]
theorem XA (a:Addr) (v:Value) (hv:CZ v=true) (k:Sem Unit) {u:Value} (hc:w.cell? a=some u) (hf:w.frozen? a=false) :
  (Sem.store .plain a v k).run P w=k.run P (w.setCell a v):=by
 cases v <;> simp_all [CZ,Sem.run]
theorem Rz (b:Nat) (t:TypeId) (fz:Nat × Nat):∀ (vs:List Value) (o i:Nat) (w:World) (arr:Array Value),w.heap[b]?=some (.cells arr t fz)->aMa fz arr.size->o+i+vs.length<=arr.size->(∀ v∈vs,CZ v=true) ->
  (storeCells ⟨b,o,none⟩ vs i).run P w=.ok () (CL w b (.cells ⟨Fv arr.toList (o+i) vs⟩ t fz))
 | [],o,i,w,arr,h,_,_,_=>by
  simp only [storeCells]
  have:Fv arr.toList (o+i) []=arr.toList:=by
   apply kU
   intro j
   rw [GI];simp;omega
  rw [this]
  have e:CL w b (.cells ⟨arr.toList⟩ t fz)=w:=by
   unfold CL
   have hb:b<w.heap.size:=(xK.1 h).1
   have:w.heap.setIfInBounds b (.cells arr t fz)=w.heap:=by
    apply Array.ext_getElem?
    intro j
    by_cases hj:b=j
    ·simp_all
    ·simp_all
   simp [this]
  rw [e]
  rfl
 | v::vs,o,i,w,arr,h,Qd,hl,hp=>by
  have GL:o+i<arr.size:=by simp at hl;omega
  have hc:w.cell? ⟨b,o+i,none⟩=some arr[o+i]:=by simp [World.cell?,h,GL]
  have hf:w.frozen? ⟨b,o+i,none⟩=false:=by
   obtain⟨lo,hi⟩:=fz
   rcases Qd with Qd | Qd <;> simp only at Qd <;> simp only [World.frozen?,h] <;> simp <;> omega
  have ih:=Rz b t fz vs o (i+1) (CL w b (.cells (arr.setIfInBounds (o+i) v) t fz)) (arr.setIfInBounds (o+i) v) (D5 h) (by simpa using Qd) MHl (fun u hu=>hp u (by simp [hu]))
  show(Sem.bind (store _ v) _).run P w=_
  rw [Jh _ rfl]
  simp only [store,Sem.bind]
  rw [XA _ _ (hp v MBV) _ hc hf,ZR h]
  refine ih.trans ?_
  rw [dJ]
  congr 4
  grind [WB]
end
def Ext (n:Nat) (a b:Gm):Prop:=∀ m,m<n->b.nm m=a.nm m
theorem Ext.refl (n:Nat) (a:Gm):Ext n a a:=fun _ _=>rfl
theorem Ext.trans {n:Nat} {a b c:Gm} (h:Ext n a b) (k:Ext n b c):Ext n a c:=fun m hm=>(k m hm).trans (h m hm)
theorem Ext.mono {n m:Nat} {a b:Gm} (h:Ext n a b) (hm:m<=n):Ext m a b:=fun k hk=>h k ME
section
variable {C:Cx} {Γ:Gm} {H:Hp} {w:World}
def Au (C:Cx) (n0:Nat) (Γ:Gm) (H:Hp) (w:World) (BU:Gm) (H':Hp) (w':World):Prop:=
 R C BU H' w'/\Ext n0 Γ BU/\n0<=H'.next/\Tr Γ H w BU H' w'
theorem Au.refl (h:R C Γ H w) (n0:Nat) (hn:n0<=H.next):Au C n0 Γ H w Γ H w:=⟨h,Ext.refl _ _,hn,Tr.refl _ _ _⟩
theorem Au.trans {n0:Nat} {Cq YT:Gm} {H1 H2:Hp} {w1 w2:World} (h:Au C n0 Γ H w Cq H1 w1) (k:Au C n0 Cq H1 w1 YT H2 w2):Au C n0 Γ H w YT H2 w2:=
 ⟨k.1,h.2.1.trans k.2.1,k.2.2.1,h.2.2.2.trans k.2.2.2⟩
theorem Au.mono {n0 n1:Nat} {Cq:Gm} {H1:Hp} {w1:World} (h:Au C n1 Γ H w Cq H1 w1) (hn:n0<=n1):Au C n0 Γ H w Cq H1 w1:=
 ⟨h.1,h.2.1.mono hn,kG hn h.2.2.1,h.2.2.2⟩
theorem Au.drew (h:R C Γ H w) (n0:Nat) (hn:n0<=H.next):Au C n0 Γ H w Γ H { w with drawn:=w.drawn+1 }:=⟨h.drew,Ext.refl _ _,hn,Tr.drew _ _ _⟩
theorem Au.le {Cq:Gm} {H1:Hp} {w1:World} (hR:R C Γ H w) (h:Au C H.next Γ H w Cq H1 w1):Γ.le Cq:=by
 refine⟨fun n q hq=>?_,h.2.2.2.fz⟩
 have hn:n<H.next:=by
  exact MDG
 rw [h.2.1 n hn];exact hq
theorem Fw {o:Ag} {n:Nat} {p:Ag} (h:Aq (H.push o).l n=some p):(n=H.next/\p=o)∨(n ≠ H.next/\Aq H.l n=some p):=by
 simp only [Hp.push] at h
 by_cases e:H.next=n
 ·subst e;rw [D7] at h;simp_all
 grind [Eb]
theorem R.push (h:R C Γ H w) {ob:Obj} {q:Pl} {o:Ag} (hb:q.blk=w.heap.size) (_hn:q.nl=false) (hf:o.fr=false) (ho:Cv C.P (Γ.put H.next q) (w.alloc ob) q o) :
  Au C H.next Γ H w (Γ.put H.next q) (H.push o) (w.alloc ob):=by
 have hle:Γ.le (Γ.put H.next q):=Gm.Oa (h.fresh _ (qN _))
 have hold:∀ k,k<w.heap.size->(w.alloc ob).heap[k]?=w.heap[k]?:=fun k hk=>RowKit.Below.heap_alloc w _ k hk
 have GL:∀ (m:Nat) (p:Ag) (q':Pl),Aq H.l m=some p->Γ.nm m=some q'->q'.nl=false->q'.blk<w.heap.size:=by
  intro m p q' hm Gp BF
  obtain⟨q1,e1,e2⟩:=h.Dz m p hm
  rw [Gp] at e1
  injection e1 with e1
  subst e1
  exact e2.IP BF
 refine⟨⟨fun g cs hg=>(h.Jq g cs hg).mono hle.fz,fun n hn=>?_,fun b arr Qd=>?_,fun n p hp=>?_,fun n p q1 hp Ea GA BF=>?_,fun n p m p' q1 q2 hp Q6 ES GA QW Ea BF PZ=>?_⟩,fun m hm=>Gm.Bp _ _ ME,MIX,⟨rfl,rfl,rfl,by simp,fun k hk _=>hold k hk,fun k hk=>?_,FW.le_refl _,fun k a hk=>.inl hk⟩⟩
 ·exact MJr
 ·obtain⟨t,z,e⟩:=h.Io b arr Qd
  grind
 ·rcases Fw hp with ⟨rfl,rfl⟩ | ⟨ES,hp⟩
  ·grind [Gm.Bq]
  ·obtain⟨q1,e1,e2⟩:=h.Dz n p hp
   exact⟨q1,hle.nm _ _ e1,e2.ext hle fun BF=>hold _ (GL n p q1 hp e1 BF)⟩
 ·rcases Fw hp with ⟨rfl,rfl⟩ | ⟨ES,hp⟩
  ·rw [Gm.Bq] at GA
   injection GA with e
   subst e
   show Γ.fz q.blk=none
   cases hx:Γ.fz q.blk with
   | none=>rfl
   | some a=>have:=aLt h hx;omega
  ·exact MK5
 ·rcases Fw hp with ⟨rfl,rfl⟩ | ⟨q8,hp⟩
  ·rcases Fw Q6 with ⟨rfl,rfl⟩ | ⟨rC,Q6⟩
   ·trivial
   grind [Gm.Bq,Gm.Bp]
  ·rw [Gm.Bp _ _ q8] at GA
   have hlq:=GL n p q1 hp GA BF
   exact MEh
 ·exact MDz
theorem R.aJp (h:R C Γ H w) {q:Pl} {o:Ag} (hn:q.nl=true) (hc:BV o.c=true) (he:NM o.c) (hsz:DN q.s q.tc o.c) :
  Au C H.next Γ H w (Γ.put H.next q) (H.push o) w:=by
 have hle:Γ.le (Γ.put H.next q):=Gm.Oa (h.fresh _ (qN _))
 refine⟨⟨fun g cs hg=>(h.Jq g cs hg).mono hle.fz,fun n hn=>?_,h.Io,fun n p hp=>?_,fun n p q1 hp Ea GA BF=>?_,fun n p m p' q1 q2 hp Q6 ES GA QW Ea BF PZ=>?_⟩,fun m hm=>Gm.Bp _ _ ME,MIX,⟨rfl,rfl,rfl,qN _,fun k hk _=>rfl,fun k hk=>?_,FW.le_refl _,fun k a hk=>.inl hk⟩⟩
 ·exact MJr
 ·rcases Fw hp with ⟨rfl,rfl⟩ | ⟨ES,hp⟩
  ·grind [Gm.Bq,BA]
  ·obtain⟨q1,e1,e2⟩:=h.Dz n p hp
   exact MI9
 ·rcases Fw hp with ⟨rfl,rfl⟩ | ⟨ES,hp⟩
  ·grind [Gm.Bq]
  ·exact MK5
 ·rcases Fw hp with ⟨rfl,rfl⟩ | ⟨q8,hp⟩
  ·grind [Gm.Bq]
  ·rw [Gm.Bp _ _ q8] at GA
   exact MEh
 ·exact MDz
theorem R.bY (h:R C Γ H w) {n:Nat} {o o':Ag} {q:Pl} {x:Obj} (hn:Aq H.l n=some o) (Ea:o.fr=false) (hq:Γ.nm n=some q) (BF:q.nl=false) (aQc:o'.fr=false)
  (ho:Cv C.P Γ (CL w q.blk x) q o') :
  Au C H.next Γ H w Γ { H with l:=DJ H.l n o' } (CL w q.blk x):=by
 have LF:∀ m p,Aq (DJ H.l n o') m=some p->(m=n/\p=o')∨(m ≠ n/\Aq H.l m=some p):=by
  exact MIW
 have aGW:RJ Γ H q.blk:=MHq
 refine⟨⟨h.Jq,h.fresh,fun b arr Qd=>?_,fun m p hp=>?_,fun m p q1 hp hf GA hl=>?_,fun m p m' p' q1 q2 hp Q6 ES GA QW hf hl TK=>?_⟩,Ext.refl _ _,qN _,⟨rfl,rfl,rfl,by simp [CL],fun k hk Bt=>Dv (fun e=>Bt (e ▸ aGW)),fun k hk=>?_,FW.le_refl _,fun k a hk=>.inl hk⟩⟩
 ·exact MEx
 ·rcases LF m p hp with ⟨rfl,rfl⟩ | ⟨ES,hp⟩
  ·simp_all
  ·exact MEf
 ·rcases LF m p hp with ⟨rfl,rfl⟩ | ⟨ES,hp⟩
  ·exact h.own _ o q1 hn Ea GA hl
  ·exact h.own m p q1 hp hf GA hl
 ·rcases LF m p hp with ⟨rfl,rfl⟩ | ⟨q8,hp⟩
  ·rcases LF m' p' Q6 with ⟨rfl,rfl⟩ | ⟨rC,Q6⟩
   ·trivial
   ·exact h.apart m o m' p' q1 q2 hn Q6 ES GA QW Ea hl TK
  ·exact MEH
 ·obtain⟨m,p,q1,h1,h2,h3,h4,rfl⟩:=hk
  rcases LF m p h1 with ⟨rfl,rfl⟩ | ⟨ES,hp⟩
  ·simp_all
  ·exact .inr ⟨m,p,q1,hp,h2,h3,h4,rfl⟩
theorem R.del (h:R C Γ H w) (n:Nat):Au C H.next Γ H w Γ { H with l:=HV H.l n } w:=by
 refine⟨⟨h.Jq,h.fresh,h.Io,fun m o hm=>h.Dz m o (Bc.1 hm).2,fun m o q hm=>h.own m o q (Bc.1 hm).2,fun m o k p q q' hm hk=>h.apart m o k p q q' (Bc.1 hm).2 (Bc.1 hk).2⟩,Ext.refl _ _,qN _,⟨rfl,rfl,rfl,qN _,fun _ _ _=>rfl,?_,FW.le_refl _,fun _ _ h=>.inl h⟩⟩
 rintro k ⟨m,o,q,h1,h2⟩
 exact .inr ⟨m,o,q,(Bc.1 h1).2,h2⟩
theorem R.rename (h:R C Γ H w) {n:Nat} {o:Ag} {q:Pl} (hn:Aq H.l n=some o) (hq:Γ.nm n=some q) :
  Au C H.next Γ H w (Γ.put H.next q) (Hp.push { H with l:=HV H.l n } o) w:=by
 have hle:Γ.le (Γ.put H.next q):=Gm.Oa (h.fresh _ (qN _))
 have LF:∀ m p,Aq (Hp.push { H with l:=HV H.l n } o).l m=some p->(m=H.next/\p=o)∨(m ≠ H.next/\m ≠ n/\Aq H.l m=some p):=by
  intro m p hm
  rcases Fw hm with ⟨rfl,rfl⟩ | ⟨ES,hp⟩
  ·simp_all
  ·obtain⟨a1,a2⟩:=Bc.1 hp
   simp_all
 refine⟨⟨fun g cs hg=>(h.Jq g cs hg).mono hle.fz,fun m hm=>?_,h.Io,fun m p hp=>?_,fun m p q1 hp Ea GA BF=>?_,fun m p m' p' q1 q2 hp Q6 ES GA QW Ea BF PZ=>?_⟩,fun m hm=>Gm.Bp _ _ ME,MIX,⟨rfl,rfl,rfl,qN _,fun k hk _=>rfl,fun k hk=>?_,FW.le_refl _,fun k a hk=>.inl hk⟩⟩
 ·simp only [Hp.push] at hm
  rw [Gm.Bp _ _ ME]
  exact h.fresh m ME
 ·rcases LF m p hp with ⟨rfl,rfl⟩ | ⟨h1,h2,h3⟩
  ·obtain⟨q1,e1,e2⟩:=h.Dz n p hn
   rw [hq] at e1;injection e1 with e1;subst e1
   exact⟨q,Gm.Bq _ _ _,e2.ext hle fun _=>rfl⟩
  ·obtain⟨q1,e1,e2⟩:=h.Dz m p h3
   exact MI9
 ·rcases LF m p hp with ⟨rfl,rfl⟩ | ⟨h1,h2,h3⟩
  ·rw [Gm.Bq] at GA
   injection GA with e
   subst e
   exact h.own n p q hn Ea hq BF
  ·rw [Gm.Bp _ _ h1] at GA
   exact h.own m p q1 h3 Ea GA BF
 ·rcases LF m p hp with ⟨rfl,rfl⟩ | ⟨h1,h2,h3⟩
  ·rcases LF m' p' Q6 with ⟨rfl,rfl⟩ | ⟨h1',h2',SK⟩
   ·trivial
   ·rw [Gm.Bq] at GA
    injection GA with e
    subst e
    rw [Gm.Bp _ _ h1'] at QW
    exact h.apart n p m' p' q q2 hn SK (vW h2') hq QW Ea BF PZ
  ·rw [Gm.Bp _ _ h1] at GA
   rcases LF m' p' Q6 with ⟨rfl,rfl⟩ | ⟨h1',h2',SK⟩
   ·rw [Gm.Bq] at QW
    injection QW with e
    subst e
    exact h.apart m p n p' q1 q h3 hn h2 GA hq Ea BF PZ
   ·rw [Gm.Bp _ _ h1'] at QW
    exact h.apart m p m' p' q1 q2 h3 SK ES GA QW Ea BF PZ
 ·obtain⟨m,p,q1,h1,h2,h3,h4,rfl⟩:=hk
  rcases LF m p h1 with ⟨rfl,rfl⟩ | ⟨k1,k2,k3⟩
  ·rw [Gm.Bq] at h3;injection h3 with h3;subst h3
   exact .inr ⟨n,p,q,hn,h2,hq,h4,rfl⟩
  ·rw [Gm.Bp _ _ k1] at h3
   exact .inr ⟨m,p,q1,k3,h2,h3,h4,rfl⟩
def Gm.frz (Γ:Gm) (b:Nat) (a:List Value):Gm:=⟨Γ.nm,fun k=>match Nat.beq k b with | true=>some a | false=>Γ.fz k⟩
theorem Gm.wJ (Γ:Gm) (b:Nat) (a:List Value):(Γ.frz b a).fz b=some a:=by simp [Gm.frz]
theorem Gm.fu (Γ:Gm) {b k:Nat} (a:List Value) (h:k ≠ b):(Γ.frz b a).fz k=Γ.fz k:=by simp only [Gm.frz,Ll h]
theorem R.freeze (h:R C Γ H w) {n:Nat} {o:Ag} (hn:Aq H.l n=some o) (hc:BV o.c=true) :
  ∃ BU,BU.nm=Γ.nm/\Au C H.next Γ H w BU { H with l:=DJ H.l n { o with fr:=true } } w:=by
 obtain⟨q,hq,ho⟩:=h.Dz n o hn
 have LF:∀ m p,Aq (DJ H.l n { o with fr:=true }) m=some p->(m=n/\p={ o with fr:=true })∨(m ≠ n/\Aq H.l m=some p):=by
  exact MIW
 -- the aQJ step
 have key:∀ BU:Gm,BU.nm=Γ.nm->Γ.fz.le BU.fz->(∀ b a,BU.fz b=some a->Γ.fz b=some a∨(o.fr=false/\q.nl=false/\b=q.blk/\∃ t z,w.heap[b]?=some (.cells ⟨a⟩ t z)))->Cv C.P BU w q { o with fr:=true } ->
   Au C H.next Γ H w BU { H with l:=DJ H.l n { o with fr:=true } } w:=by
  intro BU F4 Qd aM3 Em
  have hle:Γ.le BU:=⟨fun m q' e=>by rw [F4];exact e,Qd⟩
  refine⟨⟨fun g cs hg=>(h.Jq g cs hg).mono Qd,fun m hm=>by rw [F4];exact h.fresh m hm,fun b arr hb=>?_,fun m p hp=>?_,fun m p q1 hp hf GA hl=>?_,fun m p m' p' q1 q2 hp Q6 ES GA QW hf hl TK=>?_⟩,fun m hm=>by rw [F4],qN _,⟨rfl,rfl,rfl,qN _,fun k hk _=>rfl,fun k hk=>?_,Qd,fun k a hk=>?_⟩⟩
  ·rcases aM3 b arr hb with e | ⟨_,_,_,e⟩
   ·exact h.Io b arr e
   ·exact e
  ·rcases LF m p hp with ⟨rfl,rfl⟩ | ⟨ES,hp⟩
   ·simp_all
   ·obtain⟨q1,e1,e2⟩:=h.Dz m p hp
    exact⟨q1,MAe,e2.ext hle fun _=>rfl⟩
  ·rw [F4] at GA
   rcases LF m p hp with ⟨rfl,rfl⟩ | ⟨ES,hp⟩
   ·cases hf
   ·have h0:=h.own m p q1 hp hf GA hl
    cases hx:BU.fz q1.blk with
    | none=>rfl
    | some a=>
     rcases aM3 _ _ hx with e | ⟨e1,e2,e3,_⟩
     ·simp_all
     ·exact absurd e3 (h.apart m p n o q1 q hp hn ES GA hq hf hl e2)
  ·rw [F4] at GA QW
   rcases LF m p hp with ⟨rfl,rfl⟩ | ⟨q8,hp⟩
   ·cases hf
   ·exact MEH
  ·obtain⟨m,p,q1,h1,h2,h3,h4,rfl⟩:=hk
   rw [F4] at h3
   rcases LF m p h1 with ⟨rfl,rfl⟩ | ⟨ES,hp⟩
   ·cases h2
   ·exact .inr ⟨m,p,q1,hp,h2,h3,h4,rfl⟩
  ·rcases aM3 k a hk with e | ⟨e1,e2,e3,_⟩
   ·exact .inl e
   ·exact .inr (.inr ⟨n,o,q,hn,e1,hq,e2,e3.symm⟩)
 rcases (BA hc).1 ho with ⟨BF,he⟩ | ⟨BF,us,rest,z,h1,h2,h3,SK,h4,h5,h6,h7,h8⟩
 ·exact⟨Γ,rfl,key Γ rfl (FW.le_refl _) (fun b a e=>.inl e) ((BA (o:={ o with fr:=true }) hc).2 (.inl ⟨BF,he⟩))⟩
 ·cases Ea:o.fr with
  | true=>exact⟨Γ,rfl,key Γ rfl (FW.le_refl _) (fun b a e=>.inl e) ((BA (o:={ o with fr:=true }) hc).2 (.inr ⟨BF,us,rest,z,h1,h2,h3,SK,h4,h5,h6,h7,fun _=>h8 Ea⟩))⟩
  | false=>
   have h0:=h.own n o q hn Ea hq BF
   have hle:Γ.fz.le (Γ.frz q.blk (us++rest)).fz:=by
    intro k x hk
    by_cases e:k=q.blk
    ·simp_all
    ·grind [Gm.fu]
   refine⟨Γ.frz q.blk (us++rest),rfl,key _ rfl hle (fun b a e=>?_) ((BA (o:={ o with fr:=true }) hc).2 (.inr ⟨BF,us,rest,z,h1,h2,h3,SK,h4,Cw (a:=Γ) (b:=Γ.frz q.blk (us++rest)) ⟨fun _ _ e=>e,hle⟩ _ _ h5,h6,h7,fun _=>Gm.wJ _ _ _⟩))⟩
   by_cases e':b=q.blk
   ·subst e'
    rw [Gm.wJ] at e
    simp_all
   grind [Gm.fu]
end
end Go.Proofs.YtkegmchjobphdaaGreatDoor.Y
namespace Go.Proofs.YtkegmchjobphdaaGreatDoor.Y
open Go
inductive Ba where
 | val (v:AV)
 | cond (c:Prop) (v:AV)
 | split (c:Prop) (a b:AV)
 | ZO (g c:Prop) (a b:AV)
 | wrap (k:IntKind) (n:Int)
 | fq (c:Prop) (k:IntKind) (n:Int)
 | ex (p:AV->Prop)
 | bad
def Ba.bu (r:Ba) (K:AV->Prop):Prop:=
 match r with
 | .val v=>K v
 | .cond c v=>c/\K v
 | .split c a b=>(c->K a)/\(¬ c->K b)
 | .ZO g c a b=>g/\(c->K a)/\(¬ c->K b)
 | .wrap k n=>∃ m,m=k.wrap n/\K (.p (.int k m))
 | .fq c k n=>c/\∃ m,m=k.wrap n/\K (.p (.int k m))
 | .ex p=>∃ v,p v/\K v
 | .bad=>False
def Ba.EW (r:Ba) (v:AV):Prop:=
 match r with
 | .val u=>v=u
 | .cond c u=>c/\v=u
 | .split c a b=>(c/\v=a)∨(¬ c/\v=b)
 | .ZO g c a b=>g/\((c/\v=a)∨(¬ c/\v=b))
 | .wrap k n=>v=.p (.int k (k.wrap n))
 | .fq c k n=>c/\v=.p (.int k (k.wrap n))
 | .ex p=>p v
 | .bad=>False
theorem Ba.YY {r:Ba} {K:AV->Prop} (h:r.bu K):∃ v,r.EW v/\K v:=by
 cases r with
 | val v=>exact⟨v,rfl,h⟩
 | cond c v=>exact⟨v,⟨h.1,rfl⟩,h.2⟩
 | split c a b=>
  by_cases hc:c
  ·exact⟨a, .inl MHR,h.1 hc⟩
  ·exact⟨b, .inr MHR,h.2 hc⟩
 | ZO g c a b=>
  by_cases hc:c
  ·exact⟨a,⟨h.1, .inl MHR⟩,h.2.1 hc⟩
  ·exact⟨b,⟨h.1, .inr MHR⟩,h.2.2 hc⟩
 | wrap k n=>obtain⟨m,rfl,hk⟩:=h;exact⟨_,rfl,hk⟩
 | fq c k n=>obtain⟨hc,m,rfl,hk⟩:=h;exact⟨_,MHR,hk⟩
 | ex p=>trivial
 | bad=>exact h.elim
abbrev vB (b:Bool):AV:=.p (.bool b)
abbrev vI (k:IntKind) (n:Int):AV:=.p (.int k n)
abbrev vS (s:List UInt8):AV:=.p (.str s)
def BI:AV->List AV
 | .p (.agg cs)=>cs.map .p
 | .agg cs=>cs
 | v=>[v]
def mW:PV->List PV
 | .agg cs=>cs
 | v=>[v]
section
variable (P:Program)
def NP (t:TypeId):Option (Option Nat):=
 match P.underlying t with
 | some (.struct _)=>(szOf P t).map some
 | some (.array _ _)=>(szOf P t).map some
 | some _=>some none
 | none=>none
def G9 (t:TypeId) (cs:List AV) (f:Nat):Option AV:=
 match NP P t with
 | some (some s)=>match LD cs f s with
  | some r=>some (fV r)
  | none=>none
 | some none=>nth cs f
 | none=>none
def Ka (t:TypeId) (cs:List PV) (f:Nat):Option PV:=
 match NP P t with
 | some (some s)=>match LD cs f s with
  | some r=>some (.agg r)
  | none=>none
 | some none=>nth cs f
 | none=>none
def Qc (t:TypeId) (v:AV) (lk:Nat->Option Ag):Ba:=
 match v with
 | .ptr n i f=>
  match lk n with
  | some o=>match o.c with
   | .bx cs=>match Nat.beq i 0,G9 P t cs f with
    | true,some u=>.val u
    | _,_=>.bad
   | .pu xs=>match Nat.beq f 0,NP P t with
    | true,some none=>.ex fun u=>∃ x,xs[i]?=some x/\u=.p x
    | _,_=>.bad
   | .GN xss=>.ex fun u=>∃ cs x,xss[i]?=some cs/\Ka P t cs f=some x/\u=.p x
   | .mx xs=>match Nat.beq f 0,NP P t,nth xs i with
    | true,some none,some x=>.val x
    | _,_,_=>.bad
   | .Gw xss=>.ex fun u=>∃ cs,xss[i]?=some cs/\G9 P t cs f=some u
   | _=>.bad
  | none=>.bad
 | .Lx n i f=>
  match lk n with
  | some o=>match o.c with
   | .bx cs=>match Nat.beq i 0 with
    | true=>.ex fun u=>G9 P t cs f=some u
    | false=>.bad
   | _=>.bad
  | none=>.bad
 | .p (.fp cs)=>match Ka P t cs 0 with
  | some x=>.val (.p x)
  | none=>.bad
 | _=>.bad
def ZM (op:BinOp) (k:IntKind) (a b:Int):Ba:=
 match op with
 | .add=>.wrap k (a+b)
 | .sub=>.wrap k (a - b)
 | .mul=>.wrap k (a * b)
 | .quo=>.fq (b ≠ 0) k (a.tdiv b)
 | .rem=>.cond (b ≠ 0) (vI k (a.tmod b))
 | .and=>.wrap k ((BitVec.ofInt k.bits a &&& BitVec.ofInt k.bits b).toNat:Int)
 | .or=>.wrap k ((BitVec.ofInt k.bits a ||| BitVec.ofInt k.bits b).toNat:Int)
 | .xor=>.wrap k ((BitVec.ofInt k.bits a ^^^ BitVec.ofInt k.bits b).toNat:Int)
 | .andNot=>.wrap k ((BitVec.ofInt k.bits a &&& ~~~ BitVec.ofInt k.bits b).toNat:Int)
 | .eql=>.split (a=b) (vB true) (vB false)
 | .neq=>.split (a=b) (vB false) (vB true)
 | .lss=>.split (a<b) (vB true) (vB false)
 | .leq=>.split (a<=b) (vB true) (vB false)
 | .gtr=>.split (b<a) (vB true) (vB false)
 | .geq=>.split (b<=a) (vB true) (vB false)
 | _=>.bad
def mq (op:BinOp) (a b:List UInt8):Ba:=
 match op with
 | .add=>.cond (a.length+b.length<=9223372036854775807) (vS (a++b))
 | .eql=>.split (a=b) (vB true) (vB false)
 | .neq=>.split (a=b) (vB false) (vB true)
 | .lss=>.split (Op.bytesLess a b=true) (vB true) (vB false)
 | .geq=>.split (Op.bytesLess a b=true) (vB false) (vB true)
 | .leq=>.split (Op.bytesLess a b=true∨a=b) (vB true) (vB false)
 | .gtr=>.split (Op.bytesLess a b=true∨a=b) (vB false) (vB true)
 | _=>.bad
def fits (t:TypeId) (x:PV):Bool:=
 match x with
 | .str _=>match P.underlying t with
  | some .string=>true
  | _=>false
 | .int _ _=>match P.underlying t with
  | some (.int _)=>true
  | _=>false
 | .bool _=>match P.underlying t with
  | some .bool=>true
  | _=>false
 | _=>false
def fitAll:List Field->List PV->Nat->Bool
 | [],[],_=>true
 | f :: fs, x :: xs, n => Nat.beq f.offset n && (f.name != "_") && fits P f.type x && fitAll fs xs (n + 1)
 | _,_,_=>false
def aBH (t:TypeId) (xs:List PV):Bool:=
 match P.underlying t with
 | some (.struct fs)=>fitAll P fs.toList xs 0
 | _=>false
def RS (g:TypeId->List PV->Bool):List Field->List PV->Nat->Bool
 | [],[],_=>true
 | [],_::_,_=>false
 | f :: fs, xs, n => Nat.beq f.offset n && (f.name != "_") && (match szOf P f.type with
  | some c=>Nat.beq (xs.take c).length c && g f.type (xs.take c) && RS g fs (xs.drop c) (n+c)
  | none=>false)
def NW:Nat->TypeId->List PV->Bool
 | 0,_,_=>false
 | d+1,t,xs=>match P.underlying t with
  | some (.struct fs)=>!P.stoodInHeld t && RS P (NW d) fs.toList xs 0
  | _=>match xs with
   | [x]=>fits P t x
   | _=>false
inductive Kd where
 | J6 | ptr | aEc | ifc | other
def kd:AV->Kd
 | .p .J6=>.J6
 | .p (.fp _)=>.ptr
 | .ptr _ _ _=>.ptr
 | .Lx _ _ _=>.ptr
 | .p .nilIface=>.aEc
 | .p (.iface _ _)=>.ifc
 | .iface _ _=>.ifc
 | _=>.other
def aCb:AV->AV->Bool
 | .ptr n i f, .ptr n' i' f'=>Nat.beq n n' && Nat.beq i i' && Nat.beq f f'
 | _,_=>false
def aBI (t:TypeId) (x y:AV) (neg:Bool) (ZP:Bool):Ba:=
 match kd x,kd y with
 | .ptr, .ptr=>match aCb x y,P.underlying t with
  | true,some (.pointer e)=>match szOf P e with
   | some _=>.val (vB (!neg))
   | none=>.bad
  | _,_=>.bad
 | .J6, .J6=>match P.underlying t with
  | some (.pointer _)=>.val (vB (!neg))
  | _=>.bad
 | .ptr, .J6=>match P.underlying t with
  | some (.pointer _)=>.val (vB neg)
  | _=>.bad
 | .J6, .ptr=>match P.underlying t with
  | some (.pointer _)=>.val (vB neg)
  | _=>.bad
 | .aEc, .aEc=>match ZP,P.underlying t with
  | true,some (.interface _)=>.val (vB (!neg))
  | _,_=>.bad
 | .ifc, .aEc=>match P.underlying t with
  | some (.interface _)=>.val (vB neg)
  | _=>.bad
 | .aEc, .ifc=>match P.underlying t with
  | some (.interface _)=>.val (vB neg)
  | _=>.bad
 | _,_=>.bad
def fo (t:TypeId) (x y:AV) (neg:Bool) (ZP:Bool):Ba:=
 match x,y with
 | .p (.bool a), .p (.bool b)=>match P.underlying t with
  | some .bool=>.split (a=b) (vB (!neg)) (vB neg)
  | _=>.bad
 | .p (.agg xs), .p (.agg ys)=>match aBH P t xs && Aw xs ys with
  | true=>.ZO (P.stoodInHeld t=false/\P.eqGuardType P.depth t=false) (xs=ys) (vB (!neg)) (vB neg)
  | false=>.bad
 | x,y=>aBI P t x y neg ZP
def ZN (op:BinOp) (t:TypeId) (x y:AV) (ZP:Bool):Ba:=
 match x,y with
 | .p (.int k a), .p (.int k' b)=>
  match op with
  | .shl=>.fq (0<=b) k (a * 2 ^ (min b.toNat k.bits))
  | .shr=>.cond (0<=b) (vI k (a.fdiv (2 ^ (min b.toNat k.bits))))
  | op=>match k == k' with
   | true=>ZM op k a b
   | false=>.bad
 | .p (.str a), .p (.str b)=>mq op a b
 | x,y=>match op with
  | .eql=>fo P t x y false ZP
  | .neq=>fo P t x y true ZP
  | _=>.bad
def wH:List Field->Nat->Option Field
 | [],_=>none
 | x::_,0=>some x
 | _::l,n+1=>wH l n
theorem mg (l:List Field) (n:Nat):wH l n=l[n]?:=by
 induction l generalizing n with
 | nil=>rfl
 | cons x l ih=>cases n with
  | zero=>rfl
  | succ n=>grind [wH]
def ofO (o:Option AV):Ba:=match o with
 | some v=>.val v
 | none=>.bad
def ofP (o:Option PV):Ba:=match o with
 | some v=>.val (.p v)
 | none=>.bad
def Kk (t:TypeId) (x:AV) (f:Nat):Ba:=
 match P.underlying t with
 | some (.struct fs)=>
  match wH fs.toList f with
  | some fd=>match x with
   | .p (.agg cs)=>ofP (Ka P fd.type cs fd.offset)
   | .agg cs=>ofO (G9 P fd.type cs fd.offset)
   | _=>.bad
  | none=>.bad
 | _=>.bad
def J9 (s:TypeId) (x:AV) (f:Nat):Ba:=
 match P.underlying s with
 | some (.struct fs)=>
  match wH fs.toList f with
  | some fd=>match szOf P fd.type with
   | some (z+1)=>match x with
    | .ptr n i f=>.val (.ptr n i (f+fd.offset))
    | .Lx n i f=>.val (.Lx n i (f+fd.offset))
    | .p (.fp cs)=>match LD cs fd.offset (z+1) with
     | some r=>.val (.p (.fp r))
     | none=>.bad
    | _=>.bad
   | _=>.bad
  | none=>.bad
 | _=>.bad
def Ib (t:TypeId) (x i:AV):Ba:=
 match i with
 | .p (.int _ i)=>
  match P.underlying t with
  | some (.slice e)=>match szOf P e with
   | some s=>match x with
    | .sl n s' off len=>match Nat.beq s s' with
     | true=>.cond (0<=i/\i<len) (.ptr n (off+i.toNat) 0)
     | false=>.bad
    | .p (.Dh xs)=>match Nat.beq s 1 with
     | true=>.ex fun u=>0<=i/\∃ x,xs[i.toNat]?=some x/\u=.p (.fp [x])
     | false=>.bad
    | .p (.Ai s' xss)=>match Nat.beq s s' with
     | true=>.ex fun u=>0<=i/\∃ x,xss[i.toNat]?=some x/\u=.p (.fp x)
     | false=>.bad
    | _=>.bad
   | none=>.bad
  | some (.array n e)=>match szOf P e with
   | some (s+1)=>match x with
    | .ptr m j f=>.cond (0<=i/\i<n) (.Lx m j (f+i.toNat * (s+1)))
    | .Lx m j f=>.cond (0<=i/\i<n) (.Lx m j (f+i.toNat * (s+1)))
    | .p (.fp cs)=>.ex fun u=>(0<=i/\i<n)/\∃ r,LD cs (i.toNat * (s+1)) (s+1)=some r/\u=.p (.fp r)
    | _=>.bad
   | _=>.bad
  | _=>.bad
 | _=>.bad
def P8 (t:TypeId) (x i:AV):Ba:=
 match i with
 | .p (.int _ i)=>
  match P.underlying t with
  | some .string=>match x with
   | .p (.str s)=>.ex fun u=>0<=i/\∃ b:UInt8,s[i.toNat]?=some b/\u=vI .u8 (b.toNat:Int)
   | _=>.bad
  | some (.array n e)=>match szOf P e with
   | some s=>match x with
    | .p (.agg cs)=>.ex fun u=>(0<=i/\i<n)/\∃ v,Ka P e cs (i.toNat * s)=some v/\u=.p v
    | .agg cs=>.ex fun u=>(0<=i/\i<n)/\G9 P e cs (i.toNat * s)=some u
    | _=>.bad
   | none=>.bad
  | _=>.bad
 | _=>.bad
def sub {α:Type} (s:List α):Option Int->Option Int->List α
 | none,none=>s
 | none,some h=>s.take h.toNat
 | some l,none=>s.drop l.toNat
 | some l,some h=>(s.drop l.toNat).take (h.toNat - l.toNat)
def Nc (n:Nat):Option Int->Option Int->Prop
 | none,none=>True
 | none,some h=>0<=h/\h<=n
 | some l,none=>0<=l/\l<=n
 | some l,some h=>0<=l/\l<=h/\h<=n
def bnd:Option AV->Option (Option Int)
 | none=>some none
 | some (.p (.int _ l))=>some (some l)
 | _=>none
def P9:Option Int->Nat
 | none=>0
 | some l=>l.toNat
def dH (n:Nat):Option Int->Nat
 | none=>n
 | some l=>l.toNat
def QA (t:TypeId) (x:AV) (lo hi mx:Option AV):Ba:=
 match mx with
 | some _=>.bad
 | none=>match bnd lo,bnd hi with
  | some l,some h=>
   match P.underlying t with
   | some .string=>match x with
    | .p (.str s)=>.cond (Nc s.length l h) (vS (sub s l h))
    | _=>.bad
   | some (.slice e)=>match szOf P e with
    | some s=>match x with
     | .sl n s' off len=>match Nat.beq s s' with
      | true=>.cond (Nc len l h) (.sl n s' (off+P9 l) (dH len h - P9 l))
      | false=>.bad
     | .p (.Dh xs)=>match Nat.beq s 1 with
      | true=>.cond (Nc xs.length l h) (.p (.Dh (sub xs l h)))
      | false=>.bad
     | .p (.Ai s' xss)=>match Nat.beq s s' with
      | true=>.cond (Nc xss.length l h) (.p (.Ai s' (sub xss l h)))
      | false=>.bad
     | .p .Ad=>.cond (Nc 0 l h) (.p .Ad)
     | _=>.bad
    | none=>.bad
   | _=>.bad
  | _,_=>.bad
def Oh (t:TypeId) (x:AV):Ba:=
 match P.underlying t with
 | some .string=>match x with
  | .p (.str s)=>.val (vI .i64 s.length)
  | _=>.bad
 | some (.slice _)=>match x with
  | .sl _ _ _ n=>.val (vI .i64 n)
  | .p (.Dh xs)=>.val (vI .i64 xs.length)
  | .p (.Ai _ xss)=>.val (vI .i64 xss.length)
  | .p .Ad=>.val (vI .i64 0)
  | _=>.bad
 | some (.array n _)=>.val (vI .i64 n)
 | _=>.bad
def bld (ev:Operand->AV) (place:Nat->Option (Nat × Nat)) (cells:List AV):List (Nat × Operand)->Option (List AV)
 | []=>some cells
 | (i,x)::r=>
  match place i with
  | none=>none
  | some (off,s)=>match Nat.beq (BI (ev x)).length s && Nat.ble (off+s) cells.length with
   | true=>bld ev place (Fv cells off (BI (ev x))) r
   | false=>none
def Py (fs:List Field) (i:Nat):Option (Nat × Nat):=
 match wH fs i with
 | some f=>match szOf P f.type with
  | some s=>some (f.offset,s)
  | none=>none
 | none=>none
def Px:List Field->Bool
 | []=>true
 | f::r=>(szOf P f.type).isSome && Px r
def known:AV->Bool
 | .junk=>false
 | _=>true
def zeroOf (t:TypeId):Option PV:=
 match P.info? t with
 | some i=>match i.zero with
  | some z=>Ir z
  | none=>none
 | none=>none
def Tf (t:TypeId) (parts:List (Nat × Operand)) (ev:Operand->AV):Ba:=
 match zeroOf P t,P.underlying t,parts.all (fun p=>known (ev p.2)) with
 | some z,some (.struct fs),true=>match Px P fs.toList,bld ev (Py P fs.toList) (BI (.p z)) parts with
  | true,some cs=>.val (fV cs)
  | _,_=>.bad
 | some z,some (.array _ e),true=>match szOf P e with
  | some s=>match bld ev (fun i=>some (i * s,s)) (BI (.p z)) parts with
   | some cs=>.val (fV cs)
   | none=>.bad
  | none=>.bad
 | _,_,_=>.bad
def aGs:TypeDesc->Bool
 | .interface _=>false
 | _=>true
def IU:AV->Option (Option (TypeId × AV))
 | .p .nilIface=>some none
 | .p (.iface t v)=>some (some (t, .p v))
 | .iface t v=>some (some (t,v))
 | _=>none
def Qm (x:AV) (asserted:TypeId) (ok:Bool):Ba:=
 match P.underlying asserted with
 | none=>.bad
 | some d=>match aGs d with
  | false=>.bad
  | true=>match IU x,ok with
   | some (some (t,v)),true=>match Nat.beq t asserted,zeroOf P asserted with
    | true,_=>.val (.GG [v,vB true])
    | false,some z=>.val (.GG [.p z,vB false])
    | _,_=>.bad
   | some (some (t,v)),false=>match Nat.beq t asserted with
    | true=>.val v
    | false=>.bad
   | some none,true=>match zeroOf P asserted with
    | some z=>.val (.GG [.p z,vB false])
    | none=>.bad
   | _,_=>.bad
def aEW:Int->List AV->Option Int
 | a,[]=>some a
 | a, .p (.int _ b)::r=>aEW (if b<a then b else a) r
 | _,_=>none
def aEX:Int->List AV->Option Int
 | a,[]=>some a
 | a, .p (.int _ b)::r=>aEX (if a<b then b else a) r
 | _,_=>none
def ub (b:UInt8):PV:=.int .u8 (b.toNat:Int)
def ma (d:TypeDesc):Bool:=
 match d with
 | .slice e=>match P.underlying e with
  | some (.int k)=>k == .u8
  | _=>false
 | _=>false
def Nb (x:AV) (lk:Nat->Option Ag):Ba:=
 match x with
 | .p .Ad=>.val (vS [])
 | .p (.Dh xs)=>.ex fun u=>∃ s:List UInt8,xs=s.map ub/\u=vS s
 | .sl n s off len=>match lk n,Nat.beq s 1 with
  | some o,true=>match o.c with
   | .pu xs=>.ex fun u=>off+len<=xs.length/\∃ s:List UInt8,(xs.drop off).take len=s.map ub/\u=vS s
   | _=>.bad
  | _,_=>.bad
 | _=>.bad
def aOu (n:Int):List UInt8:=(Utf8.encode n).data.toList
def Oi (src dst:TypeId) (x:AV) (lk:Nat->Option Ag):Ba:=
 match P.underlying src,P.underlying dst with
 | some _,some (.int k)=>match x with
  | .p (.int _ n)=>.wrap k n
  | _=>.bad
 | some sd,some .string=>match x with
  | .p (.str s)=>.val (vS s)
  | .p (.int _ n)=>.val (vS (aOu n))
  | x=>match ma P sd with
   | true=>Nb x lk
   | false=>.bad
 | some (.pointer t),some .unsafePointer=>match x with
  | .ptr n i f=>match Nat.beq i 0,lk n,szOf P t with
   | true,some o,some (_+1)=>match o.c with
    | .bx cs=>match Nat.blt f cs.length with
     | true=>.val (.ptr n i f)
     | false=>.bad
    | _=>.bad
   | _,_,_=>.bad
  | _=>.bad
 | some .unsafePointer,some (.pointer u)=>match x with
  | .ptr n i f=>match Nat.beq i 0 && Nat.beq f 0,lk n,szOf P u with
   | true,some o,some (_+1)=>match o.c,Nat.beq o.t u || liesAt P P.depth o.t 1 0 u 1 with
    | .bx _,true=>.val (.ptr n i f)
    | _,_=>.bad
   | _,_,_=>.bad
  | _=>.bad
 | _,_=>.bad
def Kj (t:TypeId) (x:AV) (lk:Nat->Option Ag):Ba:=
 match x with
 | .mp n=>match P.underlying t with
  | some (.map _ _)=>match lk n with
   | some o=>match o.c with
    | .ms es=>.val (vI .i64 es.length)
    | _=>.bad
   | none=>.bad
  | _=>.bad
 | x=>Oh P t x
def aGv (t:TypeId) (x:AV):Ba:=
 match P.underlying t with
 | some (.slice _)=>match x with
  | .p .Ad=>.val (vI .i64 0)
  | _=>.bad
 | _=>.bad
def isC:Operand->Bool
 | .const _=>true
 | _=>false
def BR:List (List UInt8 × PV)->List UInt8->Option PV
 | [],_=>none
 | (k,x)::r,a=>match decide (a=k) with
  | true=>some x
  | false=>BR r a
open Classical in
noncomputable def H9:List (List PV × PV)->List PV->Option PV
 | [],_=>none
 | (k,x)::r,a=>if a=k then some x else H9 r a
def P6 (t:TypeId) (m k:AV) (ok:Bool) (lk:Nat->Option Ag):Ba:=
 match P.underlying t with
 | some (.map kt e)=>match P.underlying kt,k,zeroOf P e with
  | some (.struct _), .p (.agg cs),some z=>match m with
   | .mp n=>match lk n with
    | some o=>match o.c with
     | .mk zs es=>.ex fun v=>(NW P 9 kt zs && Aw zs cs)=true/\((∃ x,H9 es cs=some x/\v=match ok with
        | true=>.GG [.p x,vB true]
        | false=>.p x)∨(H9 es cs=none/\v=match ok with
        | true=>.GG [.p z,vB false]
        | false=>.p z))
     | _=>.bad
    | none=>.bad
   | _=>.bad
  | _,_,_=>.bad
 | _=>.bad
def Pz (t:TypeId) (m k:AV) (ok:Bool) (lk:Nat->Option Ag):Ba:=
 match P.underlying t with
 | some (.map kt e)=>match P.underlying kt,k,zeroOf P e with
  | some .string, .p (.str a),some z=>match m with
   | .mp n=>match lk n with
    | some o=>match o.c with
     | .ms es=>.ex fun v=>(∃ x,BR es a=some x/\v=match ok with
       | true=>.GG [.p x,vB true]
       | false=>.p x)∨(BR es a=none/\v=match ok with
       | true=>.GG [.p z,vB false]
       | false=>.p z)
     | _=>.bad
    | none=>.bad
   | .p .Sw=>.val (match ok with
    | true=>.GG [.p z,vB false]
    | false=>.p z)
   | _=>.bad
  | _,_,_=>.bad
 | _=>.bad
def Ti (t:TypeId) (m k:AV) (ok:Bool) (lk:Nat->Option Ag):Ba:=
 match k with
 | .p (.agg cs)=>P6 P t m (.p (.agg cs)) ok lk
 | k=>Pz P t m k ok lk
def pop (op:Op) (ev:Operand->AV) (lk:Nat->Option Ag):Ba:=
 match op with
 | .move x=>.val (ev x)
 | .assign x=>.val (ev x)
 | .pick c a b=>match ev c with
  | .p (.bool true)=>.val (ev a)
  | .p (.bool false)=>.val (ev b)
  | _=>.bad
 | .load t a=>Qc P t (ev a) lk
 | .nilCheck x=>match kd (ev x) with
  | .ptr=>.val (ev x)
  | _=>match ev x with
   | .fn (.func f) a b=>.val (.fn (.func f) a b)
   | .p (.fn (.func f) a b)=>.val (.p (.fn (.func f) a b))
   | _=>.bad
 | .binOp op t x y _=>ZN P op t (ev x) (ev y) (isC x || isC y)
 | .unOp op _ x=>match op,ev x with
  | .not, .p (.bool b)=>.val (vB (!b))
  | .neg, .p (.int k n)=>.wrap k (0 - n)
  | _,_=>.bad
 | .convert s d x=>Oi P s d (ev x) lk
 | .makeInterface t x=>match P.underlying t with
  | some (.interface _)=>.bad
  | some _=>.val (mkIf t (ev x))
  | none=>.bad
 | .makeFunc fn first cap=>match mZ fn with
  | true=>.val (aJ3 fn (first.toList.map ev) (cap.toList.map ev))
  | false=>.bad
 | .fieldAddr s x f=>J9 P s (ev x) f
 | .field s x f=>Kk P s (ev x) f
 | .indexAddr t x i=>Ib P t (ev x) (ev i)
 | .index t x i=>P8 P t (ev x) (ev i)
 | .slice t x lo hi mx=>QA P t (ev x) (lo.map ev) (hi.map ev) (mx.map ev)
 | .extract x i=>match ev x with
  | .GG vs=>ofO (nth vs i)
  | _=>.bad
 | .build t parts=>Tf P t parts.toList ev
 | .typeAssert x _ t ok=>Qm P (ev x) t ok
 | .lookup t m k ok=>Ti P t (ev m) (ev k) ok lk
 | .call { callee:=.builtin b,args,argTypes }=>match b,args.toList,argTypes.toList with
  | .len,[x],[t]=>Kj P t (ev x) lk
  | .cap,[x],[t]=>aGv P t (ev x)
  | .min,x::r,_=>match ev x with
   | .p (.int k a)=>match aEW a (r.map ev) with
    | some m=>.val (vI k m)
    | none=>.bad
   | _=>.bad
  | .max,x::r,_=>match ev x with
   | .p (.int k a)=>match aEX a (r.map ev) with
    | some m=>.val (vI k m)
    | none=>.bad
   | _=>.bad
  | _,_,_=>.bad
 | _=>.bad
end
end Go.Proofs.YtkegmchjobphdaaGreatDoor.Y
namespace Go.Proofs.YtkegmchjobphdaaGreatDoor.Y
open Go
section
variable {P:Program} {Γ:Gm} {w:World}
theorem JE {t:TypeId} {s:Nat} (h:szOf P t=some s):∃ i,P.info? t=some i/\i.size=s:=by
 unfold szOf at h
 simp_all
theorem CO {t:TypeId} {s:Nat} (h:szOf P t=some s) (w:World):(sizeOf t).run P w=.ok s w:=by
 obtain⟨i,h1,h2⟩:=JE h
 simp [sizeOf,typeInfo,program,Sem.run,h1,h2]
theorem VA {t:TypeId} {z:PV} (h:zeroOf P t=some z):∃ i z',P.info? t=some i/\i.zero=some z'/\Ir z'=some z:=by
 unfold zeroOf at h
 grind
theorem Kh {t:TypeId} {z:PV} (h:zeroOf P t=some z) (w:World) (Γ:Gm):∃ z',(zeroValue t).run P w=.ok z' w/\VR Γ (.p z) z':=by
 obtain⟨i,z',h1,h2,h3⟩:=VA h
 exact⟨z',by simp [zeroValue,typeInfo,program,Sem.run,h1,h2],by grind [VR,Yz]⟩
theorem Qn {t:TypeId} {o:Option Nat} (h:NP P t=some o) (w:World):(isAgg t).run P w=.ok o.isSome w/\∀ s,o=some s->szOf P t=some s:=by
 unfold NP at h
 cases hu:P.underlying t with
 | none=>simp_all
 | some d=>
  rw [hu] at h
  have hr:(isAgg t).run P w=.ok (match d with | .struct _ | .array _ _=>true | _=>false) w:=by
   unfold isAgg
   simp only [Sem.run_bind,run_underlying hu,Result.andThen_ok]
   cases d <;> rfl
  rw [hr]
  cases d <;> simp only [xL] at h <;>
   first
    | (obtain⟨a,h1,rfl⟩:=h;exact⟨rfl,fun s e=>by injection e with e;rw [<- e];exact h1⟩)
    | (injection h with h;subst h;exact⟨rfl,fun s e=>MJ9⟩)
theorem Hy {t:TypeId} {b o:Nat} {cs:List AV} {us:List Value} (hv:CX Γ cs us) (hc:∀ (j:Nat) (u:Value),us[j]?=some u->w.cell? ⟨b,o+j,none⟩=some u) {f:Nat} {v:AV} (hl:G9 P t cs f=some v) :
  ∃ v',(Instr.loadAt t (.pointer (some ⟨b,o+f,none⟩))).run P w=.ok v' w/\VR Γ v v':=by
 unfold G9 at hl
 split at hl
 ·rename_i s ht
  obtain⟨aMz,hsz⟩:=Qn ht w
  split at hl
  ·rename_i r hg
   injection hl with hl
   subst hl
   obtain⟨hr1,hr2,hr3⟩:=NZ hg
   have hvr:CX Γ r ((us.drop f).take s):=by rw [hr1];exact IZ _ (Ji _ hv)
   have hlen:=BH hvr
   have Jc:=Qi (P:=P) (w:=w) b (o+f) ((us.drop f).take s) (fun j u hj=>by
    grind)
   rw [hlen,hr2] at Jc
   refine⟨.agg ⟨(us.drop f).take s⟩,?_,Tg.2 MEE⟩
   simp [Instr.loadAt,Instr.sureAddr,loadVar,aMz,CO (hsz s rfl),Jc]
  ·cases hl
 ·rename_i ht
  obtain⟨aMz,_⟩:=Qn ht w
  rw [Hw] at hl
  obtain⟨u',h1,h2⟩:=OY hv hl
  refine⟨u',?_,h2⟩
  simp [Instr.loadAt,Instr.sureAddr,loadVar,aMz,load,Sem.run,hc _ _ h1]
 ·cases hl
theorem fU {α β:Type} (g:α->β):∀ (l:List α) (n:Nat),Nf (l.map g) n=(Nf l n).map (List.map g)
 | l,0=>by simp [Nf]
 | [],n+1=>by simp [Nf]
 | x::l,n+1=>by
  simp only [kI,Nf,fU g l n]
  cases Nf l n <;> simp
theorem u6 {α β:Type} (g:α->β):∀ (l:List α) (k n:Nat),LD (l.map g) k n=(LD l k n).map (List.map g)
 | l,0,n=>fU g l n
 | [],k+1,n=>by simp [LD]
 | x::l,k+1,n=>by simp only [kI,LD,u6 g l k n]
theorem aJz {α β:Type} (g:α->β) (l:List α) (n:Nat):nth (l.map g) n=(nth l n).map g:=by
 grind [Hw]
theorem wE:∀ (l:List PV),Wx (l.map .p)=some l
 | []=>rfl
 | x::l=>by simp [Wx,wE l]
theorem mh {t:TypeId} {cs:List PV} {f:Nat}:G9 P t (cs.map .p) f=(Ka P t cs f).map .p:=by
 unfold G9 Ka
 split
 ·grind [u6,fV,wE]
 ·rw [aJz]
 ·rfl
theorem HZ {us rest:List Value} {b:Nat} {t:TypeId} {z:Nat × Nat} (h:w.heap[b]?=some (.cells ⟨us++rest⟩ t z)) {j:Nat} {u:Value} (hj:us[j]?=some u):w.cell? ⟨b,j,none⟩=some u:=by
 have hl:j<us.length:=(xU.1 hj).1
 simp only [World.cell?,h,jM,qV,jh,jA]
 grind
theorem Fg {α:Type} {s:Nat}:∀ {xss:List (List α)},(∀ cs∈xss,cs.length=s)->∀ {i:Nat} {cs:List α},xss[i]?=some cs->cs=(xss.flatten.drop (i * s)).take s/\i * s+s<=xss.flatten.length
 | [],_,i,cs,h=>by simp at h
 | c::xss,hs,0,cs,h=>by
  simp_all
 | c::xss,hs,i+1,cs,h=>by
  simp only [xW] at h
  obtain⟨h1,h2⟩:=Fg (fun c hc=>hs c (by simp [hc])) h
  have hl:=hs c MBV
  have e:(i+1) * s=c.length+i * s:=by rw [hl,jm];omega
  refine⟨?_,?_⟩
  ·rw [xI,e,zV,qb ME]
   simpa using h1
  ·rw [xI,qD,e]
   omega
variable {C:Cx} {H:Hp}
theorem Yj (h:R C Γ H w) {t:TypeId} {x:AV} {x':Value} {v:AV} (hx:VR Γ x x') (hy:(Qc C.P t x (Aq H.l)).EW v) :
  ∃ v',(Instr.loadAt t x').run C.P w=.ok v' w/\VR Γ v v':=by
 have cell:∀ {n:Nat} {o:Ag} {q:Pl},Aq H.l n=some o->BV o.c=true->Γ.nm n=some q->q.nl=false->ZE C.P Γ w q o:=by
  intro n o q hn hc hq BF
  obtain⟨q',Gp,ho⟩:=h.Dz n o hn
  rw [hq] at Gp
  injection Gp with e
  subst e
  rcases (BA hc).1 ho with ⟨e,_⟩ | ⟨_,e⟩
  ·simp_all
  ·exact e
 unfold Qc at hy
 split at hy
 ·rename_i n i f
  simp only [VR] at hx
  obtain⟨q,hq,BF,rfl⟩:=hx
  split at hy <;> try exact hy.elim
  rename_i o ho
  split at hy <;> try exact hy.elim
  ·rename_i cs hc
   obtain⟨us,rest,z,h1,h2,h3,SK,h4,h5,h6,h7,_⟩:=cell ho MCO hq BF
   rw [hc] at h5
   split at hy <;> try exact hy.elim
   rename_i u hi hl
   have hi:=qI hi
   subst hi
   simp only [Ba.EW] at hy
   subst hy
   have:=Hy (P:=C.P) (w:=w) (b:=q.blk) (o:=0) h5 (fun j u hj=>by grind [HZ]) hl
   exact MHw
  ·rename_i xs hc
   obtain⟨us,rest,z,h1,h2,h3,SK,h4,h5,h6,h7,_⟩:=cell ho MCO hq BF
   rw [hc] at h5 h7
   simp only [DN] at h7
   split at hy <;> try exact hy.elim
   rename_i hf ht
   have hf:=qI hf
   subst hf
   obtain⟨x,hx,rfl⟩:=hy
   have hl:G9 C.P t (flat (.pu xs)) i=some (.p x):=by
    simp only [G9,ht,flat]
    rw [Hw,kF,hx]
    rfl
   exact MHZ
  ·rename_i xss hc
   obtain⟨us,rest,z,h1,h2,h3,SK,h4,h5,h6,h7,_⟩:=cell ho MCO hq BF
   rw [hc] at h5 h7
   simp only [DN] at h7
   obtain⟨cs,x,hx,hl,rfl⟩:=hy
   obtain⟨e1,e2⟩:=Fg h7 hx
   have JM:CX Γ (cs.map .p) ((us.drop (i * q.s)).take q.s):=by
    have:cs.map AV.p=((flat (.GN xss)).drop (i * q.s)).take q.s:=by
     conv=>lhs;rw [e1]
     simp only [flat]
     rw [<- zM,<- jJ]
    rw [this]
    exact IZ _ (Ji _ h5)
   have TK:G9 C.P t (cs.map .p) f=some (.p x):=by rw [mh,hl];rfl
   exact Hy (P:=C.P) (w:=w) (b:=q.blk) (o:=i * q.s) JM (fun j u hj=>by
    grind [HZ]) TK
  ·rename_i xs hc
   obtain⟨us,rest,z,h1,h2,h3,SK,h4,h5,h6,h7,_⟩:=cell ho MCO hq BF
   rw [hc] at h5 h7
   simp only [DN] at h7
   split at hy <;> try exact hy.elim
   rename_i x hf ht hx
   have hf:=qI hf
   subst hf
   simp only [Ba.EW] at hy
   subst hy
   have hl:G9 C.P t (flat (.mx xs)) i=some v:=by simp only [G9,ht,flat];exact hx
   exact MHZ
  ·rename_i xss hc
   obtain⟨us,rest,z,h1,h2,h3,SK,h4,h5,h6,h7,_⟩:=cell ho MCO hq BF
   rw [hc] at h5 h7
   simp only [DN] at h7
   obtain⟨cs,hx,hl⟩:=hy
   obtain⟨e1,e2⟩:=Fg h7 hx
   have JM:CX Γ cs ((us.drop (i * q.s)).take q.s):=by
    have:cs=((flat (.Gw xss)).drop (i * q.s)).take q.s:=by simp only [flat];exact e1
    rw [this]
    exact IZ _ (Ji _ h5)
   exact Hy (P:=C.P) (w:=w) (b:=q.blk) (o:=i * q.s) JM (fun j u hj=>by
    grind [HZ]) hl
 ·rename_i n i f
  simp only [VR] at hx
  obtain⟨q,hq,BF,rfl⟩:=hx
  split at hy <;> try exact hy.elim
  rename_i o ho
  split at hy <;> try exact hy.elim
  rename_i cs hc
  obtain⟨us,rest,z,h1,h2,h3,SK,h4,h5,h6,h7,_⟩:=cell ho MCO hq BF
  rw [hc] at h5
  split at hy <;> try exact hy.elim
  rename_i hi
  have hi:=qI hi
  subst hi
  simp only [Ba.EW] at hy
  have:=Hy (P:=C.P) (w:=w) (b:=q.blk) (o:=0) h5 (fun j u hj=>by grind [HZ]) hy
  exact MHw
 ·rename_i cs
  simp only [VR,VP] at hx
  obtain⟨b,o,arr,us,rfl,Qd,PD,aMv⟩:=hx
  split at hy <;> try exact hy.elim
  rename_i x hl
  simp only [Ba.EW] at hy
  subst hy
  obtain⟨t',z,hb⟩:=h.Io b arr Qd
  have TK:G9 C.P t (cs.map .p) 0=some (.p x):=by rw [mh,hl];rfl
  have:=Hy (P:=C.P) (w:=w) (b:=b) (o:=o) (CJ.2 PD) (fun j u hj=>by
   have:=aMv.get hj
   simp only [World.cell?,hb,jM,qV,jh,jA]
   exact this) TK
  exact MHw
 ·exact hy.elim
theorem str_inj {a b:List UInt8}:((⟨⟨a⟩⟩:ByteArray).toList == (⟨⟨b⟩⟩:ByteArray).toList)=decide (a=b):=by
 grind [ByteArray.toList_mk]
theorem aEa {op:BinOp} {k:IntKind} {t:TypeId} {a b:Int} {v:AV} (hy:(ZM op k a b).EW v) :
  ∃ v',(binOp op t (.int k a) (.int k b)).run P w=.ok v' w/\VR Γ v v':=by
 cases op <;> simp only [ZM,Ba.EW] at hy <;> try exact hy.elim
 all_goals simp only [binOp,ne_eq,not_true_eq_false,jh,Op.intArith,Op.intDiv,Op.intBits,Op.intCmp]
 all_goals
  first
   | (subst hy;exact MKu)
   | (obtain⟨hc,rfl⟩:=hy;rw [qG hc];exact MKu)
   | (rcases hy with ⟨hc,rfl⟩ | ⟨hc,rfl⟩ <;> exact⟨_,rfl,by simp [VR,VP,hc,bne]⟩)
theorem mo (a b:List UInt8):(⟨⟨a⟩⟩:ByteArray)++⟨⟨b⟩⟩=⟨⟨a++b⟩⟩:=by
 rfl
theorem aEb {op:BinOp} {t:TypeId} {a b:List UInt8} {v:AV} (hy:(mq op a b).EW v) :
  ∃ v',(binOp op t (.string ⟨⟨a⟩⟩) (.string ⟨⟨b⟩⟩)).run P w=.ok v' w/\VR Γ v v':=by
 have hsa:(⟨⟨a⟩⟩:ByteArray).size=a.length:=rfl
 have hsb:(⟨⟨b⟩⟩:ByteArray).size=b.length:=rfl
 cases op <;> simp only [mq,Ba.EW] at hy <;> try exact hy.elim
 all_goals simp only [binOp,Op.stringOp,str_inj]
 all_goals try simp only [ByteArray.toList_mk]
 all_goals
  first
   | (obtain⟨hc,rfl⟩:=hy;rw [qG (by rw [show IntKind.i64.max=9223372036854775807 from rfl,hsa,hsb];omega)];exact⟨_,rfl,by simp only [VR,VP,mo]⟩)
   | (rcases hy with ⟨hc,rfl⟩ | ⟨hc,rfl⟩ <;> refine⟨_,rfl,?_⟩ <;> simp only [VR,VP,Value.bool.injEq] <;> (first | (simp_all;done) | (rcases hc with hc | hc <;> simp_all)))
theorem dI {fz:FW} {x y:PV} {x' y':Value} (hs:sameKind x y=true) (hx:VP fz x x') (hy:VP fz y y'):x'=real x/\y'=real y:=by
 unfold sameKind at hs
 split at hs <;> first | (exact absurd hs ML) | (simp only [VP] at hx hy;exact⟨hx,hy⟩)
theorem IY {fz:FW}:∀ {xs ys:List PV} {xs' ys':List Value},Aw xs ys=true->Ey fz xs xs'->Ey fz ys ys'->xs'=xs.map real/\ys'=ys.map real
 | [],[],_,_,_,hx,hy=>by trivial
 | x::xs,y::ys,_,_,hs,hx,hy=>by
  simp only [Aw,qC] at hs
  simp only [Ey] at hx hy
  obtain⟨u,us,rfl,h1,h2⟩:=hx
  obtain⟨v,vs,rfl,h3,h4⟩:=hy
  obtain⟨rfl,rfl⟩:=dI hs.1 h1 h3
  obtain⟨rfl,rfl⟩:=IY hs.2 h2 h4
  trivial
 | [],_::_,_,_,hs,_,_=>MDL
 | _::_,[],_,_,hs,_,_=>MDL
theorem fits_int {t:TypeId} {k:IntKind} {a:Int} (h:fits P t (.int k a)=true):∃ k',P.underlying t=some (.int k'):=by
 grind [fits]
theorem fits_string {t:TypeId} {a:List UInt8} (h:fits P t (.str a)=true):P.underlying t=some .string:=by
 grind [fits]
theorem fits_bool {t:TypeId} {a:Bool} (h:fits P t (.bool a)=true):P.underlying t=some .bool:=by
 grind [fits]
theorem KI {t:TypeId} {x:PV} (h:fits P t x=true):(∃ k a,x=.int k a)∨(∃ a,x=.str a)∨(∃ a,x=.bool a):=by
 unfold fits at h
 grind
theorem Oj {t:TypeId} {x:PV} (hf:fits P t x=true) {cs:Array Value} {n:Nat} (hv:cs[n]?=some (real x)):(part t cs n).run P w=.ok (real x) w:=by
 have ha:(isAgg t).run P w=.ok false w:=by
  unfold isAgg
  rcases KI hf with ⟨k,a,rfl⟩ | ⟨a,rfl⟩ | ⟨a,rfl⟩
  ·obtain⟨k',hu⟩:=fits_int hf
   exact MJM
  ·simp only [Sem.run_bind,run_underlying (fits_string hf),Result.andThen_ok];rfl
  ·simp only [Sem.run_bind,run_underlying (fits_bool hf),Result.andThen_ok];rfl
 unfold part
 simp [ha,hv]
theorem fZ {t:TypeId} {x y:PV} (hf:fits P t x=true) (hs:sameKind x y=true) (d:Nat):∃ b,(Op.equalIn (d+1) t (real x) (real y)).run P w=.ok b w/\(b=true ↔ x=y):=by
 rcases KI hf with ⟨k,a,rfl⟩ | ⟨a,rfl⟩ | ⟨a,rfl⟩
 ·cases y <;> try (simp [sameKind] at hs;done)
  rename_i k' b
  simp only [sameKind,zw] at hs
  subst hs
  obtain⟨k',hu⟩:=fits_int hf
  exact MHM
 ·cases y <;> try (simp [sameKind] at hs;done)
  rename_i b
  have hu:=fits_string hf
  exact⟨(⟨⟨a⟩⟩:ByteArray).toList == (⟨⟨b⟩⟩:ByteArray).toList,by simp [real,Op.equalIn,run_underlying hu,beq_toListBytes],by simp []⟩
 ·cases y <;> try (simp [sameKind] at hs;done)
  rename_i b
  have hu:=fits_bool hf
  exact MHM
theorem Tj:∀ (fs:List Field) (xs ys:List PV) (pre W9:List Value),W9.length=pre.length->fitAll P fs xs pre.length=true->Aw xs ys=true->∀ (d:Nat),
  ∃ b,(Op.eqFields (d+1) ⟨pre++xs.map real⟩ ⟨W9++ys.map real⟩ fs).run P w=.ok b w/\(b=true ↔ xs=ys)
 | [],[],[],_,_,_,_,_,d=>⟨true,by rfl,by simp⟩
 | [],[],_::_,_,_,_,_,hs,d=>by trivial
 | [],_::_,_,_,_,_,hf,_,d=>by trivial
 | _::_,[],_,_,_,_,hf,_,d=>by trivial
 | f::fs,x::xs,[],_,_,_,_,hs,d=>by trivial
 | f::fs,x::xs,y::ys,pre,W9,hl,hf,hs,d=>by
  simp only [fitAll,qC,bne_iff_ne,ne_eq] at hf
  obtain⟨⟨⟨h1,h2⟩,h3⟩,h4⟩:=hf
  have h1:=qI h1
  simp only [Aw,qC] at hs
  obtain⟨b,hb,Jn⟩:=fZ (w:=w) h3 hs.1 d
  have hpx:(part f.type ⟨pre++(x::xs).map real⟩ f.offset).run P w=.ok (real x) w:=Oj h3 (by rw [h1];simp)
  have hfy:fits P f.type y=true:=by
   rcases KI h3 with ⟨k,a,rfl⟩ | ⟨a,rfl⟩ | ⟨a,rfl⟩
   ·cases y <;> try (simp [sameKind] at hs;done)
    obtain⟨k',hu⟩:=fits_int h3
    simp [fits,hu]
   ·cases y <;> try (simp [sameKind] at hs;done)
    simp [fits,fits_string h3]
   ·cases y <;> try (simp [sameKind] at hs;done)
    simp [fits,fits_bool h3]
  have hpy:(part f.type ⟨W9++(y::ys).map real⟩ f.offset).run P w=.ok (real y) w:=Oj hfy MAe
  obtain⟨b',hb',aOs⟩:=Tj fs xs ys (pre++[real x]) (W9++[real y]) (by simp [hl]) MHF hs.2 d
  simp only [qO,List.singleton_append] at hb'
  simp only [kI] at hpx hpy ⊢
  cases b with
  | true=>
   refine⟨b',?_,?_⟩
   ·simp [Op.eqFields,h2,hpx,hpy,hb,hb']
   simp_all
  | false=>
   refine⟨false,?_,?_⟩
   ·simp [Op.eqFields,h2,hpx,hpy,hb]
   simp_all
def aBG:Value->Bool
 | .bool _ | .pointer _ | .nilIface | .iface _ _ | .agg _=>true
 | _=>false
def fe:Value->Value->Bool
 | .nilIface, .nilIface=>false
 | .agg _, .agg _=>false
 | _,_=>true
theorem wF (t:TypeId) {x y:Value} {b:Bool} (h:(Op.equalIn 10000 t x y).run P w=.ok b w) (hk:aBG x=true) :
  (binOp .eql t x y).run P w=.ok (.bool b) w/\(binOp .neq t x y).run P w=.ok (.bool (!b)) w:=by
 constructor <;> cases x <;> first | (simp [aBG] at hk;done) | simp [binOp,Op.equal,Op.maxDepth,h]
theorem Ei (op:BinOp) (t:TypeId) (X Y:Operand) {x y:Value} (h:fe x y=true):(eqGuard op t X Y x y).run P w=.ok () w:=by
 cases op <;> simp only [eqGuard,Bool.not_true,Bool.not_false,qV,jh,jv]
 all_goals first | rfl | (split <;> first | (simp [fe] at h;done) | rfl)
section
variable (d:Nat) {t e:TypeId} {ms:Array (String × TypeId)}
theorem aGy (a b:Bool) (hu:P.underlying t=some .bool):(Op.equalIn (d+1) t (.bool a) (.bool b)).run P w=.ok (a == b) w:=MC4
theorem aM0 (hu:P.underlying t=some (.pointer e)):(Op.equalIn (d+1) t (.pointer none) (.pointer none)).run P w=.ok true w:=MC4
theorem aM1 (a:Addr) (hu:P.underlying t=some (.pointer e)):(Op.equalIn (d+1) t (.pointer (some a)) (.pointer none)).run P w=.ok false w:=MC4
theorem aM2 (a:Addr) (hu:P.underlying t=some (.pointer e)):(Op.equalIn (d+1) t (.pointer none) (.pointer (some a))).run P w=.ok false w:=MC4
theorem aJ0 (hu:P.underlying t=some (.interface ms)):(Op.equalIn (d+1) t .nilIface .nilIface).run P w=.ok true w:=MC4
theorem aJ1 (u:TypeId) (x:Value) (hu:P.underlying t=some (.interface ms)):(Op.equalIn (d+1) t (.iface u x) .nilIface).run P w=.ok false w:=MC4
theorem aJ2 (u:TypeId) (x:Value) (hu:P.underlying t=some (.interface ms)):(Op.equalIn (d+1) t .nilIface (.iface u x)).run P w=.ok false w:=MC4
end
theorem aGz {P:Program} {w:World} {t e:TypeId} (d:Nat) (a:Addr) {s:Nat} (hu:P.underlying t=some (.pointer e)) (hs:szOf P e=some s):(Op.equalIn (d+1) t (.pointer (some a)) (.pointer (some a))).run P w=.ok true w:=by
 obtain⟨i,hi,_⟩:=JE hs
 simp [Op.equalIn,run_underlying hu,sizeOf,typeInfo,hi,run_sameAddr_same]
def KdR:Kd->Value->Prop
 | .J6,v=>v=.pointer none
 | .ptr,v=>∃ a,v=.pointer (some a)
 | .aEc,v=>v=.nilIface
 | .ifc,v=>∃ t u,v=.iface t u
 | .other,_=>True
theorem ZJ {x:AV} {x':Value} (h:VR Γ x x'):KdR (kd x) x':=by
 cases x with
 | p v=>cases v <;> simp only [VR,VP] at h <;> simp only [kd,KdR] <;>
   first
    | exact h
    | (obtain⟨b,o,arr,us,rfl,_⟩:=h;exact MX)
    | (obtain⟨u,rfl,_⟩:=h;exact MG3)
 | ptr n i f=>simp only [VR] at h;obtain⟨q,_,_,rfl⟩:=h;exact MX
 | Lx n i f=>simp only [VR] at h;obtain⟨q,_,_,rfl⟩:=h;exact MX
 | iface t v=>simp only [VR] at h;obtain⟨u,rfl,_⟩:=h;exact MG3
 | _=>trivial
theorem wG {t:TypeId} {x y:AV} {x' y':Value} {v:AV} {neg:Bool} {X Y:Operand} (hx:VR Γ x x') (hy:VR Γ y y')
  (hv:(fo P t x y neg (isC X || isC Y)).EW v) :
  ∃ v',(do eqGuard (if neg then .neq else .eql) t X Y x' y';binOp (if neg then .neq else .eql) t x' y':Sem Value).run P w=.ok v' w/\VR Γ v v':=by
 have fin:∀ (b:Bool),(eqGuard (if neg then .neq else .eql) t X Y x' y').run P w=.ok () w->(Op.equalIn 10000 t x' y').run P w=.ok b w->aBG x'=true ->
   v=vB (if neg then !b else b)->∃ v',(do eqGuard (if neg then .neq else .eql) t X Y x' y';binOp (if neg then .neq else .eql) t x' y':Sem Value).run P w=.ok v' w/\VR Γ v v':=by
  intro b hg he hk hvb
  obtain⟨h1,h2⟩:=wF t he hk
  rw [Sem.run_bind,hg]
  subst hvb
  refine⟨.bool (if neg then !b else b),?_,by rfl⟩
  cases neg
  ·simpa using h1
  ·simpa using h2
 unfold fo at hv
 split at hv
 ·rename_i a b
  simp only [VR,VP] at hx hy
  subst hx;subst hy
  split at hv
  ·rename_i hu
   refine fin (a == b) (Ei _ _ _ _ rfl) (aGy 9999 a b hu) rfl ?_
   rcases hv with ⟨hc,rfl⟩ | ⟨hc,rfl⟩ <;> cases neg <;> simp [hc]
  ·exact hv.elim
 ·rename_i xs ys
  split at hv
  ·rename_i hc
   simp only [qC] at hc
   obtain⟨h1,h2⟩:=hc
   obtain⟨⟨h3,h4⟩,hv⟩:=hv
   simp only [VR,VP] at hx hy
   obtain⟨xs',rfl,hxs⟩:=hx
   obtain⟨ys',rfl,fM⟩:=hy
   obtain⟨e1,e2⟩:=IY h2 hxs fM
   obtain⟨lx'⟩:=xs'
   obtain⟨ly'⟩:=ys'
   simp only at e1 e2 h1 h2
   subst e1;subst e2
   unfold aBH at h1
   split at h1
   ·rename_i fs hu
    have hfo:P.fieldsOf t=fs:=by simp [Program.fieldsOf,hu]
    obtain⟨b,hb,Jn⟩:=Tj (P:=P) (w:=w) fs.toList xs ys [] [] rfl MJ5 h2 9998
    refine fin b (run_eqGuard_agg w _ _ _ _ _ _ h4) ?_ rfl ?_
    ·grind [run_equalIn_struct]
    grind
   ·cases h1
  ·exact hv.elim
 ·have kx:=ZJ hx
  have ky:=ZJ hy
  unfold aBI at hv
  split at hv <;> try exact hv.elim
  ·split at hv <;> try exact hv.elim
   rename_i e hsm hu
   split at hv <;> try exact hv.elim
   rename_i s hs
   have aOt:∃ a,x'=.pointer (some a)/\y'=.pointer (some a):=by
    unfold aCb at hsm
    split at hsm <;> try (cases hsm;done)
    rename_i n i f n' i' f'
    simp only [qC] at hsm
    have h1:=qI hsm.1.1
    have h2:=qI hsm.1.2
    have h3:=qI hsm.2
    subst h1;subst h2;subst h3
    simp only [VR] at hx hy
    obtain⟨q,k1,_,rfl⟩:=hx
    obtain⟨q',k2,_,rfl⟩:=hy
    rw [k1] at k2
    injection k2 with k2
    subst k2
    exact⟨_,rfl,rfl⟩
   obtain⟨a,rfl,rfl⟩:=aOt
   refine fin true (Ei _ _ _ _ rfl) (aGz 9999 a hu hs) rfl ?_
   simp only [Ba.EW] at hv;subst hv;cases neg <;> rfl
  ·rename_i e1 e2
   rw [e1] at kx;rw [e2] at ky
   simp only [KdR] at kx ky
   subst kx;subst ky
   split at hv
   ·rename_i hu
    refine fin true (Ei _ _ _ _ rfl) (aM0 9999 hu) rfl ?_
    exact MFe
   ·exact hv.elim
  ·rename_i e1 e2
   rw [e1] at kx;rw [e2] at ky
   simp only [KdR] at kx ky
   obtain⟨a,rfl⟩:=kx;subst ky
   split at hv
   ·rename_i hu
    refine fin false (Ei _ _ _ _ rfl) (aM1 9999 _ hu) rfl ?_
    exact MFe
   ·exact hv.elim
  ·rename_i e1 e2
   rw [e1] at kx;rw [e2] at ky
   simp only [KdR] at kx ky
   obtain⟨a,rfl⟩:=ky;subst kx
   split at hv
   ·rename_i hu
    refine fin false (Ei _ _ _ _ rfl) (aM2 9999 _ hu) rfl ?_
    exact MFe
   ·exact hv.elim
  ·rename_i e1 e2
   rw [e1] at kx;rw [e2] at ky
   simp only [KdR] at kx ky
   subst kx;subst ky
   split at hv
   ·rename_i hc hu
    refine fin true ?_ (aJ0 9999 hu) rfl ?_
    ·have Wi:(match X with | .const _=>true | _=>false)=true∨(match Y with | .const _=>true | _=>false)=true:=by
      simp only [kW] at hc
      rcases hc with hc | hc
      ·left;cases X <;> first | rfl | cases hc
      ·right;cases Y <;> first | rfl | cases hc
     have hor:∀ op:BinOp,(eqGuard op t X Y .nilIface .nilIface).run P w=.ok () w:=by
      intro op
      rcases Wi with Wi | Wi
      ·cases X <;> first | (simp at Wi;done) | (cases op <;> simp [eqGuard])
      ·cases Y <;> first | (simp at Wi;done) | (cases op <;> simp [eqGuard])
     exact hor _
    ·exact MFe
   ·exact hv.elim
  ·rename_i e1 e2
   rw [e1] at kx;rw [e2] at ky
   simp only [KdR] at kx ky
   obtain⟨_,_,rfl⟩:=kx;subst ky
   split at hv
   ·rename_i hu
    refine fin false (Ei _ _ _ _ rfl) (aJ1 9999 _ _ hu) rfl ?_
    exact MFe
   ·exact hv.elim
  ·rename_i e1 e2
   rw [e1] at kx;rw [e2] at ky
   simp only [KdR] at kx ky
   obtain⟨_,_,rfl⟩:=ky;subst kx
   split at hv
   ·rename_i hu
    refine fin false (Ei _ _ _ _ rfl) (aJ2 9999 _ _ hu) rfl ?_
    exact MFe
   ·exact hv.elim
theorem aEZ {op:BinOp} {t:TypeId} {x y:AV} {x' y':Value} {v:AV} {X Y:Operand} (hx:VR Γ x x') (hy:VR Γ y y')
  (hv:(ZN P op t x y (isC X || isC Y)).EW v) :
  ∃ v',(do eqGuard op t X Y x' y';binOp op t x' y':Sem Value).run P w=.ok v' w/\VR Γ v v':=by
 unfold ZN at hv
 split at hv
 ·rename_i k a k' b
  simp only [VR,VP] at hx hy
  subst hx;subst hy
  rw [Sem.run_bind,Ei _ _ _ _ rfl]
  simp only [Result.andThen_ok]
  split at hv
  ·exact MHm
  ·exact MHm
  ·split at hv
   ·rename_i hk
    have hk:k=k':=MEW
    subst hk
    exact aEa hv
   ·exact hv.elim
 ·rename_i a b
  simp only [VR,VP] at hx hy
  subst hx;subst hy
  rw [Sem.run_bind,Ei _ _ _ _ rfl]
  exact aEb hv
 ·split at hv
  ·exact wG (neg:=false) hx hy hv
  ·exact wG (neg:=true) hx hy hv
  ·exact hv.elim
end
end Go.Proofs.YtkegmchjobphdaaGreatDoor.Y
namespace Go.Proofs.YtkegmchjobphdaaGreatDoor.Y
open Go
section
variable {P:Program} {Γ:Gm} {w:World}
theorem ZK {t:TypeId} {cs:List AV} {Dt:Array Value} (hv:CX Γ cs Dt.toList) {f:Nat} {v:AV} (hl:G9 P t cs f=some v) :
  ∃ v',(part t Dt f).run P w=.ok v' w/\VR Γ v v':=by
 unfold G9 at hl
 split at hl
 ·rename_i s ht
  obtain⟨ha,hsz⟩:=Qn ht w
  split at hl
  ·rename_i r hg
   injection hl with hl
   subst hl
   obtain⟨h1,h2,h3⟩:=NZ hg
   refine⟨.agg (Dt.extract f (f+s)),by simp [part,ha,CO (hsz s rfl)],Tg.2 ?_⟩
   simp only [VR]
   refine⟨_,rfl,?_⟩
   have e:(Dt.extract f (f+s)).toList=(Dt.toList.drop f).take s:=by
    simp [Array.toList_extract,List.extract_eq_take_drop]
   grind [IZ,Ji]
  ·cases hl
 ·rename_i ht
  obtain⟨ha,_⟩:=Qn ht w
  rw [Hw] at hl
  obtain⟨v',h1,h2⟩:=OY hv hl
  have h1':Dt[f]?=some v':=by rw [<- kJ];exact h1
  exact⟨v',by simp [part,ha,h1'],h2⟩
 ·cases hl
theorem uu {t:TypeId} {x:AV} {x':Value} {v:AV} {f:Nat} (hx:VR Γ x x') (hv:(Kk P t x f).EW v):∃ v',(Instr.field t x' f).run P w=.ok v' w/\VR Γ v v':=by
 unfold Kk at hv
 split at hv <;> try exact hv.elim
 rename_i fs hu
 split at hv <;> try exact hv.elim
 rename_i fd Vo
 rw [mg] at Vo
 have aGw:fs[f]?=some fd:=by rw [<- kJ];exact Vo
 have go:∀ (cs:List AV) (Dt:Array Value),CX Γ cs Dt.toList->G9 P fd.type cs fd.offset=some v->∃ v',(Instr.field t (.agg Dt) f).run P w=.ok v' w/\VR Γ v v':=by
  intro cs Dt h1 h2
  obtain⟨v',h3,h4⟩:=ZK (w:=w) h1 h2
  exact⟨v',by simp [Instr.field,run_underlying hu,aGw,asAgg,h3],h4⟩
 split at hv <;> try exact hv.elim
 ·rename_i cs
  simp only [VR,VP] at hx
  obtain⟨Dt,rfl,JM⟩:=hx
  unfold ofP at hv
  split at hv <;> try exact hv.elim
  rename_i u tT
  simp only [Ba.EW] at hv
  subst hv
  exact go _ Dt (CJ.2 JM) (by rw [mh,tT];rfl)
 ·rename_i cs
  simp only [VR] at hx
  obtain⟨Dt,rfl,JM⟩:=hx
  unfold ofO at hv
  grind [Ba.EW]
theorem P7 {s:TypeId} {f:Nat} {fs:Array Field} {fd:Field} {z b o:Nat} (hu:P.underlying s=some (.struct fs)) (Vo:fs[f]?=some fd) (hk:szOf P fd.type=some (z+1)) :
  (Instr.fieldAt s (.pointer (some ⟨b,o,none⟩)) f).run P w=.ok (.pointer (some ⟨b,o+fd.offset,none⟩)) w:=by
 have e:=Jh ⟨b,o,none⟩ rfl fd.offset
 simp [Instr.fieldAt,run_underlying hu,Vo,Instr.sureAddr,fieldPlace,CO hk,e]
theorem aGx {fz:FW} {cs r:List PV} {b o k n:Nat} {v:Value} (h:VP fz (.fp cs) v) (hv:v=.pointer (some ⟨b,o,none⟩)) (hg:LD cs k n=some r) (hn:0<n):VP fz (.fp r) (.pointer (some ⟨b,o+k,none⟩)):=by
 subst hv
 simp only [VP] at h ⊢
 obtain⟨b',o',arr,us,e,h1,h2,h3⟩:=h
 simp only [Value.pointer.injEq,qo,Addr.mk.injEq,and_true] at e
 obtain⟨rfl,rfl⟩:=e
 obtain⟨g1,g2,g3⟩:=NZ hg
 refine⟨b,o+k,arr,_,rfl,h1,?_,h3.sub k n ?_⟩
 ·grind [HY,Ia]
 grind [Cu]
theorem Wy {s:TypeId} {x:AV} {x':Value} {v:AV} {f:Nat} (hx:VR Γ x x') (hv:(J9 P s x f).EW v):∃ v',(Instr.fieldAt s x' f).run P w=.ok v' w/\VR Γ v v':=by
 unfold J9 at hv
 split at hv <;> try exact hv.elim
 rename_i fs hu
 split at hv <;> try exact hv.elim
 rename_i fd Vo
 rw [mg] at Vo
 have aGw:fs[f]?=some fd:=by rw [<- kJ];exact Vo
 split at hv <;> try exact hv.elim
 rename_i z hk
 split at hv <;> try exact hv.elim
 ·exact MD6
 ·exact MD6
 ·rename_i cs
  split at hv <;> try exact hv.elim
  rename_i r hr
  simp only [Ba.EW] at hv
  subst hv
  simp only [VR] at hx
  have hx':=hx
  simp only [VP] at hx
  obtain⟨b,o,arr,us,e,_⟩:=hx
  rw [e]
  exact⟨_,P7 hu aGw hk,by grind [VR,aGx]⟩
theorem Kl {t e:TypeId} {s b o n c:Nat} {k:IntKind} {i:Int} (hu:P.underlying t=some (.slice e)) (hs:szOf P e=some s) (h0:0<=i) (h1:i<n) :
  (Instr.indexAt t (.slice (some ⟨b,o,none⟩) n c) (.int k i)).run P w=.ok (.pointer (some ⟨b,o+i.toNat * s,none⟩)) w:=by
 have e':=Jh ⟨b,o,none⟩ rfl (i.toNat * s)
 simp [Instr.indexAt,asIntOf,run_underlying hu,h0,h1,CO hs,e']
theorem Km {t e:TypeId} {s b o n:Nat} {k:IntKind} {i:Int} (hu:P.underlying t=some (.array n e)) (hs:szOf P e=some s) (h0:0<=i) (h1:i<n) :
  (Instr.indexAt t (.pointer (some ⟨b,o,none⟩)) (.int k i)).run P w=.ok (.pointer (some ⟨b,o+i.toNat * s,none⟩)) w:=by
 have e':=Jh ⟨b,o,none⟩ rfl (i.toNat * s)
 simp [Instr.indexAt,asIntOf,run_underlying hu,Instr.sureAddr,h0,h1,CO hs,e']
theorem Wz {t:TypeId} {x i:AV} {x' i':Value} {v:AV} (hx:VR Γ x x') (hi:VR Γ i i') (hv:(Ib P t x i).EW v):∃ v',(Instr.indexAt t x' i').run P w=.ok v' w/\VR Γ v v':=by
 unfold Ib at hv
 split at hv <;> try exact hv.elim
 rename_i k i
 simp only [VR,VP] at hi
 subst hi
 split at hv <;> try exact hv.elim
 ·rename_i e hu
  split at hv <;> try exact hv.elim
  rename_i s hs
  split at hv <;> try exact hv.elim
  ·rename_i n s' off len
   split at hv <;> try exact hv.elim
   rename_i hb
   have hb:=qI hb
   subst hb
   obtain⟨⟨h0,h1⟩,rfl⟩:=hv
   simp only [VR] at hx
   obtain⟨q,hq,dE,⟨_,_,rfl,_⟩ | ⟨BF,htc,o,rfl,ho⟩⟩:=hx
   ·omega
   ·have ho:o=off * q.s:=by
     rcases ho with ho | ho
     ·exact ho
     ·omega
    subst ho
    refine⟨_,Kl hu hs h0 h1,?_⟩
    simp only [VR]
    exact⟨q,hq,BF,by grind⟩
  ·rename_i xs
   split at hv <;> try exact hv.elim
   rename_i hb
   have hb:=qI hb
   subst hb
   obtain⟨h0,y,hy,rfl⟩:=hv
   have GL:i.toNat<xs.length:=(xU.1 hy).1
   simp only [VR,VP] at hx
   rcases hx with ⟨rfl,_⟩ | ⟨b,o,c,arr,us,rfl,hc,h1,h2,h3⟩
   ·simp at GL
   ·refine⟨_,Kl hu hs h0 ME,?_⟩
    obtain⟨u,hu1,hu2⟩:=aCa h2 hy
    have sJ:i.toNat<us.length:=(xU.1 hu1).1
    simp only [VR,VP]
    refine⟨b,_,arr,[u],rfl,h1,by simp only [Ey];simp_all,?_⟩
    have:=h3.sub i.toNat 1 ME
    rw [jX]
    rw [xM sJ] at this
    simp_all
  ·rename_i s' xss
   split at hv <;> try exact hv.elim
   rename_i hb
   have hb:=qI hb
   subst hb
   obtain⟨h0,cs,hy,rfl⟩:=hv
   have GL:i.toNat<xss.length:=(xU.1 hy).1
   simp only [VR,VP] at hx
   rcases hx with ⟨rfl,_⟩ | ⟨b,o,c,arr,us,rfl,hc,h1,h2,h3⟩
   ·simp at GL
   ·refine⟨_,Kl hu hs h0 ME,?_⟩
    obtain⟨g1,g2⟩:=FU.1 h2
    obtain⟨e1,e2⟩:=Fg g2 hy
    simp only [VR,VP]
    refine⟨b,_,arr,(us.drop (i.toNat * s)).take s,rfl,h1,?_,h3.sub _ _ ?_⟩
    ·grind [HY,Ia]
    grind [Cu]
 ·rename_i n e hu
  split at hv <;> try exact hv.elim
  rename_i s hs
  split at hv <;> try exact hv.elim
  ·exact MD5
  ·exact MD5
  ·rename_i cs
   obtain⟨⟨h0,h1⟩,r,hr,rfl⟩:=hv
   simp only [VR] at hx
   have hx':=hx
   simp only [VP] at hx
   obtain⟨b,o,arr,us,e,hx1,hx2,hx3⟩:=hx
   rw [e]
   refine⟨_,Km hu hs h0 h1,?_⟩
   grind [VR,aGx]
theorem uw {t:TypeId} {x i:AV} {x' i':Value} {v:AV} (hx:VR Γ x x') (hi:VR Γ i i') (hv:(P8 P t x i).EW v):∃ v',(Instr.index t x' i').run P w=.ok v' w/\VR Γ v v':=by
 unfold P8 at hv
 split at hv <;> try exact hv.elim
 rename_i k i
 simp only [VR,VP] at hi
 subst hi
 split at hv <;> try exact hv.elim
 ·rename_i hu
  split at hv <;> try exact hv.elim
  rename_i s
  simp only [VR,VP] at hx
  subst hx
  obtain⟨h0,b,hb,rfl⟩:=hv
  refine⟨.int .u8 (b.toNat:Int),?_,by rfl⟩
  have GL:i.toNat<s.length:=(xU.1 hb).1
  have hb':(⟨⟨s⟩⟩:ByteArray)[i.toNat]?=some b:=by
   rw [getElem?_pos (⟨⟨s⟩⟩:ByteArray) i.toNat GL]
   rw [qW GL] at hb
   exact hb
  simp [Instr.index,asIntOf,run_underlying hu,h0,hb']
 ·rename_i n e hu
  split at hv <;> try exact hv.elim
  rename_i s hs
  have go:∀ (cs:List AV) (Dt:Array Value),CX Γ cs Dt.toList->(0<=i/\i<n)->G9 P e cs (i.toNat * s)=some v->∃ v',(Instr.index t (.agg Dt) (.int k i)).run P w=.ok v' w/\VR Γ v v':=by
   intro cs Dt h1 ⟨h0,hn⟩ h2
   obtain⟨v',h3,h4⟩:=ZK (w:=w) h1 h2
   exact⟨v',by simp [Instr.index,asIntOf,run_underlying hu,h0,hn,CO hs,h3],h4⟩
  split at hv <;> try exact hv.elim
  ·rename_i cs
   simp only [VR,VP] at hx
   obtain⟨Dt,rfl,JM⟩:=hx
   obtain⟨hb,u,hl,rfl⟩:=hv
   exact go _ Dt (CJ.2 JM) hb (by rw [mh,hl];rfl)
  ·rename_i cs
   simp only [VR] at hx
   obtain⟨Dt,rfl,JM⟩:=hx
   exact go _ Dt JM hv.1 hv.2
theorem uz {lo:Option AV} {lo':Option Value} {l:Option Int} (h:bnd lo=some l) (hr:∀ v,lo=some v->∃ v',lo'=some v'/\VR Γ v v') (hn:lo=none->lo'=none) :
  (lo'=none/\l=none)∨∃ k x,lo'=some (.int k x)/\l=some x:=by
 cases lo with
 | none=>left;simp [bnd] at h;simp_all
 | some v=>
  obtain⟨v',h1,h2⟩:=hr v rfl
  cases v with
  | p x=>
   cases x <;> simp only [bnd,qo,reduceCtorEq] at h
   simp only [VR,VP] at h2
   grind
  | _=>simp [bnd] at h
theorem Ko {n:Nat} {l h:Option Int} (hs:Nc n l h):P9 l<=dH n h/\dH n h<=n/\(∀ x,l=some x->0<=x)/\(∀ x,h=some x->0<=x):=by
 cases l <;> cases h <;> simp only [Nc] at hs <;> simp only [P9,dH] <;>
  refine⟨?_,?_,?_,?_⟩ <;> first | omega | (intro x hx;injection hx with hx;omega) | (intro x hx;cases hx)
theorem sub_eq {α:Type} (s:List α) (l h:Option Int):sub s l h=(s.drop (P9 l)).take (dH s.length h - P9 l):=by
 cases l <;> cases h <;> simp [sub,P9,dH]
 rw [kX MBV]
theorem R3 (isSlice:Bool) {len cap:Nat} {lo hi:Option Value} {l h:Option Int} (hlo:(lo=none/\l=none)∨∃ k x,lo=some (.int k x)/\l=some x) (hhi:(hi=none/\h=none)∨∃ k x,hi=some (.int k x)/\h=some x)
  (hs:Nc len l h) (hc:len<=cap):(Instr.sliceBounds isSlice len cap lo hi none).run P w=.ok (P9 l,dH len h,cap) w:=by
 rcases hhi with ⟨rfl,rfl⟩ | ⟨k,x,rfl,rfl⟩ <;> rcases hlo with ⟨rfl,rfl⟩ | ⟨k',y,rfl,rfl⟩ <;> simp only [Nc] at hs
 ·simp [Instr.sliceBounds,P9,dH]
 ·have h0:0<=y:=by omega
  have h1:y<=(len:Int):=by omega
  exact MJk
 ·have h0:0<=x:=by omega
  have h1:x<=(cap:Int):=by omega
  exact MJk
 ·have h0:0<=y:=by omega
  have h2:x<=(cap:Int):=by omega
  have h3:0<=x:=by omega
  have h4:y<=(x.toNat:Int):=by omega
  simp [Instr.sliceBounds,Instr.sliceBound,asIntOf,h0,h2,h3,P9,dH]
  omega
theorem RP (s:List UInt8) (a b:Nat):(⟨⟨s⟩⟩:ByteArray).extract a b=⟨⟨(s.drop a).take (b - a)⟩⟩:=by
 apply ByteArray.ext
 simp_all
theorem Gd {t e:TypeId} {s n c:Nat} {a:Option Addr} {lo hi:Option Value} {l h:Option Int} (hu:P.underlying t=some (.slice e)) (hs:szOf P e=some s)
  (hlo:(lo=none/\l=none)∨∃ k x,lo=some (.int k x)/\l=some x) (hhi:(hi=none/\h=none)∨∃ k x,hi=some (.int k x)/\h=some x) (ho:Nc n l h) (hc:n<=c) (ha:∀ x,a=some x->x.spot=none) :
  ∃ a',(Instr.sliceAt t (.slice a n c) lo hi none).run P w=.ok (.slice a' (dH n h - P9 l) (c - P9 l)) w /\
   ((a=none/\a'=none)∨∃ b o o',a=some ⟨b,o,none⟩/\a'=some ⟨b,o',none⟩/\(o'=o+P9 l * s∨c=P9 l)):=by
 have hb:=R3 (P:=P) (w:=w) true (len:=n) (cap:=c) hlo hhi ho hc
 cases a with
 | none=>
  exact⟨none,by simp [Instr.sliceAt,run_underlying hu,Instr.slice,hb,CO hs], .inl MC⟩
 | some a=>
  obtain⟨b,o,sp⟩:=a
  have:=ha _ rfl
  simp only at this
  subst this
  by_cases hm:c=P9 l
  ·refine⟨some ⟨b,o,none⟩,?_, .inr ⟨b,o,o,rfl,rfl, .inr hm⟩⟩
   simp [Instr.sliceAt,run_underlying hu,Instr.slice,hb,CO hs]
   simp [hm]
  ·have e':=Jh ⟨b,o,none⟩ rfl (P9 l * s)
   refine⟨some ⟨b,o+P9 l * s,none⟩,?_, .inr ⟨b,o,_,rfl,rfl, .inl rfl⟩⟩
   simp [Instr.sliceAt,run_underlying hu,Instr.slice,hb,CO hs,hm,e']
theorem Gc {α:Type} {s:Nat}:∀ {xss:List (List α)},(∀ cs∈xss,cs.length=s)->∀ (k n:Nat),k<=xss.length->((xss.drop k).take n).flatten=(xss.flatten.drop (k * s)).take (n * s)
 | [],_,k,n,h=>by simp_all
 | c::xss,hs,0,n,_=>by
  have hl:=hs c (by simp)
  cases n with
  | zero=>simp
  | succ n=>
   have:=Gc (fun c hc=>hs c MK9) 0 n (qL _) (xss:=xss)
   simp only [ji,vQ] at this
   simp only [ji,jW,xI,vQ,this]
   rw [vZ,show(n+1) * s - c.length=n * s by grind,kX (l:=c) MHl]
 | c::xss,hs,k+1,n,h=>by
  have hl:=hs c MBV
  simp only [List.drop_succ_cons]
  rw [Gc (fun c hc=>hs c MK9) k n MIw,xI]
  have e:(k+1) * s=c.length+k * s:=by rw [hl,jm];omega
  rw [e,zV,show List.drop (c.length+k * s) c=[] from qb ME,show c.length+k * s - c.length=k * s by omega]
  rfl
theorem ZL {t e:TypeId} {s c:Nat} {a:Option Addr} {lo hi:Option Value} {l h:Option Int} (hu:P.underlying t=some (.slice e)) (hs:szOf P e=some s)
  (hlo:(lo=none/\l=none)∨∃ k x,lo=some (.int k x)/\l=some x) (hhi:(hi=none/\h=none)∨∃ k x,hi=some (.int k x)/\h=some x) (ho:Nc 0 l h) :
  (Instr.sliceAt t (.slice a 0 c) lo hi none).run P w=.ok (.slice a 0 c) w:=by
 have hb:=R3 (P:=P) (w:=w) true (len:=0) (cap:=c) hlo hhi ho (qL _)
 obtain⟨k1,k2,_⟩:=Ko ho
 have e1:P9 l=0:=by omega
 have e2:dH 0 h=0:=by omega
 rw [e1,e2] at hb
 cases a with
 | none=>simp [Instr.sliceAt,run_underlying hu,Instr.slice,hb,CO hs]
 | some a=>
  simp [Instr.sliceAt,run_underlying hu,Instr.slice,hb,CO hs,Addr.add]
theorem uy {t:TypeId} {x:AV} {x':Value} {v:AV} {lo hi mx:Option AV} {lo' hi' mx':Option Value} (hx:VR Γ x x')
  (hlo:∀ v,lo=some v->∃ v',lo'=some v'/\VR Γ v v') (aQ8:lo=none->lo'=none)
  (hhi:∀ v,hi=some v->∃ v',hi'=some v'/\VR Γ v v') (aQ9:hi=none->hi'=none) (aRA:mx=none->mx'=none)
  (hv:(QA P t x lo hi mx).EW v):∃ v',(Instr.sliceAt t x' lo' hi' mx').run P w=.ok v' w/\VR Γ v v':=by
 unfold QA at hv
 split at hv <;> try exact hv.elim
 have hm:mx'=none:=aRA rfl
 subst hm
 split at hv <;> try exact hv.elim
 rename_i l h hl hh
 have hL:=uz hl hlo aQ8
 have hH:=uz hh hhi aQ9
 split at hv <;> try exact hv.elim
 ·rename_i hu
  split at hv <;> try exact hv.elim
  rename_i s
  simp only [VR,VP] at hx
  subst hx
  obtain⟨ho,rfl⟩:=hv
  have hb:=R3 (P:=P) (w:=w) false (len:=s.length) (cap:=s.length) hL hH ho (qN _)
  refine⟨.string ⟨⟨sub s l h⟩⟩,?_,by rfl⟩
  have hsz:(⟨⟨s⟩⟩:ByteArray).size=s.length:=rfl
  rw [sub_eq,<- RP]
  simp [Instr.sliceAt,run_underlying hu,Instr.slice,hsz,hb]
 ·rename_i e hu
  split at hv <;> try exact hv.elim
  rename_i s hs
  split at hv <;> try exact hv.elim
  ·rename_i n s' off len
   split at hv <;> try exact hv.elim
   rename_i hb
   have hb:=qI hb
   subst hb
   obtain⟨ho,rfl⟩:=hv
   obtain⟨k1,k2,_⟩:=Ko ho
   simp only [VR] at hx
   obtain⟨q,hq,dE,⟨BF,rfl,rfl,rfl⟩ | ⟨BF,htc,o,rfl,Yu⟩⟩:=hx
   ·obtain⟨a',hr,⟨_,rfl⟩ | ⟨_,_,_,e,_⟩⟩:=Gd (w:=w) (c:=0) (a:=none) hu hs hL hH ho (qN _) (fun x e=>MJ9)
    ·refine⟨_,hr,?_⟩
     have e1:dH 0 h - P9 l=0:=by omega
     have e2:P9 l=0:=by omega
     simp only [VR]
     rw [e1,e2]
     exact⟨q,hq,dE, .inl ⟨BF,rfl,rfl,rfl⟩⟩
    ·cases e
   ·obtain⟨a',hr,⟨e,_⟩ | ⟨b,o1,o2,e,rfl,he⟩⟩:=Gd (w:=w) (a:=some ⟨q.blk,o,none⟩) (c:=q.tc - off) hu hs hL hH ho ME (fun x e=>by grind)
    ·cases e
    ·injection e with e
     injection e with e1 e2
     subst e1;subst e2
     refine⟨_,hr,?_⟩
     simp only [VR]
     refine⟨q,hq,dE, .inr ⟨BF,by omega,o2,by rw [Nat.sub_sub],?_⟩⟩
     grind
  ·rename_i xs
   split at hv <;> try exact hv.elim
   rename_i hb
   have hb:=qI hb
   subst hb
   obtain⟨ho,rfl⟩:=hv
   obtain⟨k1,k2,_⟩:=Ko ho
   have hlen:(sub xs l h).length=dH xs.length h - P9 l:=by rw [sub_eq];simp;omega
   simp only [VR,VP] at hx
   rcases hx with ⟨rfl,a,c,rfl⟩ | ⟨b,o,c,arr,us,rfl,hc,h1,h2,h3⟩
   ·exact MJ3
   ·obtain⟨a',hr,⟨e,_⟩ | ⟨b',o1,o2,e,rfl,he⟩⟩:=Gd (w:=w) (a:=some ⟨b,o,none⟩) (c:=c) hu hs hL hH ho hc (fun x e=>by grind)
    ·cases e
    ·injection e with e
     injection e with e1 e2
     subst e1;subst e2
     refine⟨_,hr,?_⟩
     simp only [VR,VP]
     rcases kS (dH xs.length h - P9 l) with hz | hz
     ·simp_all
     ·right
      have Ws:o2=o+P9 l:=by
       rcases he with he | he
       ·simpa using he
       ·omega
      subst Ws
      refine⟨b,_,_,arr,(us.drop (P9 l)).take (dH xs.length h - P9 l),by rw [hlen],by omega,h1,?_,h3.sub _ _ (by rw [Cu h2];omega)⟩
      grind [sub_eq,HY,Ia]
  ·rename_i s' xss
   split at hv <;> try exact hv.elim
   rename_i hb
   have hb:=qI hb
   subst hb
   obtain⟨ho,rfl⟩:=hv
   obtain⟨k1,k2,_⟩:=Ko ho
   have hlen:(sub xss l h).length=dH xss.length h - P9 l:=by rw [sub_eq];simp;omega
   simp only [VR,VP] at hx
   rcases hx with ⟨rfl,a,c,rfl⟩ | ⟨b,o,c,arr,us,rfl,hc,h1,h2,h3⟩
   ·exact MJ3
   ·obtain⟨a',hr,⟨e,_⟩ | ⟨b',o1,o2,e,rfl,he⟩⟩:=Gd (w:=w) (a:=some ⟨b,o,none⟩) (c:=c) hu hs hL hH ho hc (fun x e=>by grind)
    ·cases e
    ·injection e with e
     injection e with e1 e2
     subst e1;subst e2
     refine⟨_,hr,?_⟩
     simp only [VR,VP]
     rcases kS (dH xss.length h - P9 l) with hz | hz
     ·simp_all
     ·right
      have Ws:o2=o+P9 l * s:=by
       rcases he with he | he
       ·exact he
       ·omega
      subst Ws
      obtain⟨g1,g2⟩:=FU.1 h2
      have hmul:P9 l * s<=xss.flatten.length:=by
       have XW:xss.flatten.length=xss.length * s:=by
        clear hlen hz hr ho h2 g1 k1 k2 hc
        exact MLK
       rw [XW]
       exact kR _ ME
      refine⟨b,_,_,arr,(us.drop (P9 l * s)).take ((dH xss.length h - P9 l) * s),by rw [hlen],by omega,h1,FU.2 ⟨?_,?_⟩,h3.sub _ _ (by grind [Cu])⟩
      ·rw [sub_eq,Gc g2 _ _ ME]
       exact HY _ (Ia _ g1)
      grind [sub_eq]
  ·obtain⟨ho,rfl⟩:=hv
   obtain⟨k1,k2,_⟩:=Ko ho
   simp only [VR,VP] at hx
   subst hx
   obtain⟨a',hr,⟨_,rfl⟩ | ⟨_,_,_,e,_⟩⟩:=Gd (w:=w) (c:=0) (a:=none) hu hs hL hH ho (qN _) (fun x e=>MJ9)
   ·grind [VR,VP]
   ·cases e
end
end Go.Proofs.YtkegmchjobphdaaGreatDoor.Y
namespace Go.Proofs.YtkegmchjobphdaaGreatDoor.Y
open Go
set_option maxHeartbeats 4000000
section
variable (P:Program)
def P5 (t:TypeId) (xs:List PV):Value:=match P.underlying t with
 | some (.struct _)=>.agg ⟨xs.map real⟩
 | _=>(xs.map real).headD undef
end
section
variable {P:Program} {w:World}
theorem Lm:∀ {xs ys:List PV},Aw xs ys=true->ys.length=xs.length
 | [],[],_=>rfl
 | [],_::_,h=>by trivial
 | _::_,[],h=>by trivial
 | x::xs,y::ys,h=>by
  simp only [Aw,qC] at h
  rw [qR,qR,Lm h.2]
theorem Kr:∀ (c:Nat) {xs ys:List PV},Aw xs ys=true->Aw (xs.take c) (ys.take c)=true/\Aw (xs.drop c) (ys.drop c)=true
 | 0,xs,ys,h=>by trivial
 | c+1,[],[],_=>by simp [Aw]
 | c+1,[],_::_,h=>by trivial
 | c+1,_::_,[],h=>by trivial
 | c+1,x::xs,y::ys,h=>by
  simp only [Aw,qC] at h
  have ih:=Kr c h.2
  simp only [jW,List.drop_succ_cons,Aw,qC]
  exact⟨⟨h.1,ih.1⟩,ih.2⟩
theorem gH {t:TypeId} {x y:PV} (h:fits P t x=true) (hs:sameKind x y=true):fits P t y=true:=by
 rcases KI h with ⟨k,a,rfl⟩ | ⟨a,rfl⟩ | ⟨a,rfl⟩
 ·cases y <;> try (simp [sameKind] at hs;done)
  obtain⟨k',hu⟩:=fits_int h
  simp [fits,hu]
 ·cases y <;> try (simp [sameKind] at hs;done)
  simp [fits,fits_string h]
 ·cases y <;> try (simp [sameKind] at hs;done)
  simp [fits,fits_bool h]
theorem wK {t:TypeId} {x:PV} (h:fits P t x=true):∀ fs,P.underlying t ≠ some (.struct fs):=by
 intro fs e
 rcases KI h with ⟨k,a,rfl⟩ | ⟨a,rfl⟩ | ⟨a,rfl⟩
 ·grind [fits_int]
 ·grind [fits_string]
 grind [fits_bool]
theorem ZU {g:TypeId->List PV->Bool} (hg:∀ t xs ys,g t xs=true->Aw xs ys=true->g t ys=true):∀ (fs:List Field) (xs ys:List PV) (n:Nat),RS P g fs xs n=true->Aw xs ys=true->RS P g fs ys n=true
 | [],[],[],_,_,_=>rfl
 | [],[],_::_,_,_,hs=>by trivial
 | [],_::_,_,_,h,_=>by simp [RS] at h
 | f::fs,xs,ys,n,h,hs=>by
  unfold RS at h ⊢
  simp only [qC] at h ⊢
  refine⟨h.1,?_⟩
  have h:=h.2
  split at h
  ·rename_i c hc
   simp only [qC] at h ⊢
   have h2:=Kr c hs
   exact⟨⟨by rw [Lm h2.1];exact h.1.1,hg _ _ _ h.1.2 h2.1⟩,ZU hg fs _ _ _ h.2 h2.2⟩
  ·cases h
theorem H7:∀ (d:Nat) (t:TypeId) (xs ys:List PV),NW P d t xs=true->Aw xs ys=true->NW P d t ys=true
 | 0,_,_,_,h,_=>by cases h
 | d+1,t,xs,ys,h,hs=>by
  unfold NW at h ⊢
  split at h
  ·rename_i fs hu
   simp only [qC] at h ⊢
   exact⟨h.1,ZU (H7 d) _ _ _ _ h.2 hs⟩
  ·split at h
   ·rename_i x
    cases ys with
    | nil=>simp [Aw] at hs
    | cons y ys=>
     cases ys with
     | cons z ys=>simp [Aw] at hs
     | nil=>
      simp only [Aw,xX] at hs
      exact gH h hs
   ·cases h
theorem Tm {t:TypeId} {x:PV} (h:fits P t x=true):P5 P t [x]=real x:=by
 unfold P5
 split
 ·grind [wK]
 ·rfl
theorem mr {t:TypeId} {fs:Array Field} {c:Nat} (hu:P.underlying t=some (.struct fs)) (hc:szOf P t=some c) (cs:Array Value) (n:Nat):(part t cs n).run P w=.ok (.agg (cs.extract n (n+c))) w:=by
 have ha:(isAgg t).run P w=.ok true w:=by
  unfold isAgg
  exact MJM
 have hz:=CO hc w
 unfold part
 simp [ha,hz]
theorem wL (a b c:List Value):(⟨a++(b++c)⟩:Array Value).extract a.length (a.length+b.length)=⟨b⟩:=by
 simp_all
theorem R4 {d:Nat} {t:TypeId} {xs:List PV} {c:Nat} (hf:NW P d t xs=true) (hc:szOf P t=some c) (hl:xs.length=c) (pre rest:List Value) :
  (part t ⟨pre++(xs.map real++rest)⟩ pre.length).run P w=.ok (P5 P t xs) w:=by
 cases d with
 | zero=>cases hf
 | succ d=>
  unfold NW at hf
  split at hf
  ·grind [mr,P5,wL]
  grind [Tm,Oj]
theorem wM {d m:Nat} (ih:∀ (t:TypeId) (xs ys:List PV),NW P d t xs=true->Aw xs ys=true->∃ b,(Op.equalIn (d+m) t (P5 P t xs) (P5 P t ys)).run P w=.ok b w/\(b=true ↔ xs=ys)) :
  ∀ (fs:List Field) (xs ys:List PV) (pre W9:List Value),W9.length=pre.length->RS P (NW P d) fs xs pre.length=true->Aw xs ys=true ->
  ∃ b,(Op.eqFields (d+m) ⟨pre++xs.map real⟩ ⟨W9++ys.map real⟩ fs).run P w=.ok b w/\(b=true ↔ xs=ys)
 | [],[],[],_,_,_,_,_=>⟨true,by rfl,by simp⟩
 | [],[],_::_,_,_,_,_,hs=>by trivial
 | [],_::_,_,_,_,_,hf,_=>by trivial
 | f::fs,xs,ys,pre,W9,hl,hf,hs=>by
  unfold RS at hf
  simp only [qC,bne_iff_ne,ne_eq] at hf
  obtain⟨⟨h1,h2⟩,h3⟩:=hf
  have h1:=qI h1
  split at h3 <;> try cases h3
  rename_i c hc
  simp only [qC] at h3
  obtain⟨⟨h4,h5⟩,h6⟩:=h3
  have h4:=qI h4
  have hk:=Kr c hs
  have h4':(ys.take c).length=c:=by rw [Lm hk.1];exact h4
  have h5':=H7 d _ _ _ h5 hk.1
  obtain⟨b,hb,Jn⟩:=ih f.type _ _ h5 hk.1
  have ex:xs.map real=(xs.take c).map real++(xs.drop c).map real:=by rw [<- qX,kE]
  have ey:ys.map real=(ys.take c).map real++(ys.drop c).map real:=by rw [<- qX,kE]
  have hpx:(part f.type ⟨pre++xs.map real⟩ f.offset).run P w=.ok (P5 P f.type (xs.take c)) w:=by
   rw [ex,h1];exact R4 h5 hc h4 pre _
  have hpy:(part f.type ⟨W9++ys.map real⟩ f.offset).run P w=.ok (P5 P f.type (ys.take c)) w:=by
   rw [ey,h1,<- hl];exact R4 h5' hc h4' W9 _
  obtain⟨b',hb',aOs⟩:=wM ih fs (xs.drop c) (ys.drop c) (pre++(xs.take c).map real) (W9++(ys.take c).map real) MG0 MAe hk.2
  simp only [qO] at hb'
  rw [<- ex,<- ey] at hb'
  cases b with
  | true=>
   refine⟨b',?_,?_⟩
   ·simp [Op.eqFields,h2,hpx,hpy,hb,hb']
   ·rw [aOs]
    have e1:=Jn.1 rfl
    constructor
    ·intro e2
     rw [<- kE c xs,<- kE c ys,e1,e2]
    grind
  | false=>
   refine⟨false,?_,?_⟩
   ·simp [Op.eqFields,h2,hpx,hpy,hb]
   grind
theorem mK:∀ (d:Nat) (t:TypeId) (xs ys:List PV),NW P d t xs=true->Aw xs ys=true->∀ m,∃ b,(Op.equalIn (d+m) t (P5 P t xs) (P5 P t ys)).run P w=.ok b w/\(b=true ↔ xs=ys)
 | 0,_,_,_,h,_,_=>by cases h
 | d+1,t,xs,ys,h,hs,m=>by
  have h0:=h
  have hy:=H7 (d+1) t xs ys h hs
  unfold NW at h
  split at h
  ·rename_i fs hu
   simp only [qC] at h
   have hp:P.stoodInHeld t=false:=by simpa using h.1
   have hfo:P.fieldsOf t=fs:=by simp [Program.fieldsOf,hu]
   obtain⟨b,hb,Jn⟩:=wM (P:=P) (w:=w) (d:=d) (m:=m) (fun t xs ys h hs=>mK d t xs ys h hs m) fs.toList xs ys [] [] rfl h.2 hs
   grind [P5,run_equalIn_struct]
  ·split at h
   ·rename_i x
    cases ys with
    | nil=>trivial
    | cons y ys=>
     cases ys with
     | cons z ys=>simp [Aw] at hs
     | nil=>
      simp only [Aw,xX] at hs
      rw [Tm h,Tm (gH h hs)]
      obtain⟨b,hb,Jn⟩:=fZ (w:=w) h hs (d+m)
      grind
   ·cases h
theorem gI {b:Bool} {d m:Nat} (ih:∀ (t:TypeId) (xs:List PV),NW P d t xs=true->(Instr.checkKey b (d+m) t (P5 P t xs)).run P w=.ok () w) :
  ∀ (fs:List Field) (xs:List PV) (pre:List Value),RS P (NW P d) fs xs pre.length=true ->
  (forIn (m:=Sem) fs PUnit.unit fun f _=>do
   if f.name ≠ "_" then Instr.checkKey b (d + m) f.type (<- part f.type ⟨pre ++ xs.map real⟩ f.offset)
   pure (ForInStep.yield PUnit.unit)).run P w=.ok PUnit.unit w
 | [],_,_,_=>by simp
 | f::fs,xs,pre,hf=>by
  unfold RS at hf
  simp only [qC,bne_iff_ne,ne_eq] at hf
  obtain⟨⟨h1,h2⟩,h3⟩:=hf
  have h1:=qI h1
  split at h3 <;> try cases h3
  rename_i c hc
  simp only [qC] at h3
  obtain⟨⟨h4,h5⟩,h6⟩:=h3
  have h4:=qI h4
  have hk:=ih f.type _ h5
  have ex:xs.map real=(xs.take c).map real++(xs.drop c).map real:=by rw [<- qX,kE]
  have hpx:(part f.type ⟨pre++xs.map real⟩ f.offset).run P w=.ok (P5 P f.type (xs.take c)) w:=by
   rw [ex,h1];exact R4 h5 hc h4 pre _
  have ht:=gI ih fs (xs.drop c) (pre++(xs.take c).map real) MAe
  simp_all
theorem Y0 {b:Bool}:∀ (d:Nat) (t:TypeId) (xs:List PV),NW P d t xs=true->∀ m,(Instr.checkKey b (d+m) t (P5 P t xs)).run P w=.ok () w
 | 0,_,_,h,_=>by cases h
 | d+1,t,xs,h,m=>by
  rw [show d+1+m=(d+m)+1 by omega]
  unfold NW at h
  split at h
  ·rename_i fs hu
   simp only [qC] at h
   have hF:=gI (P:=P) (w:=w) (b:=b) (d:=d) (m:=m) (fun t xs h=>Y0 d t xs h m) fs.toList xs [] h.2
   unfold P5
   rw [hu]
   unfold Instr.checkKey
   simp only [Sem.run_bind,run_underlying hu,Result.andThen_ok]
   simp_all
  ·split at h
   ·rename_i x
    rw [Tm h]
    rcases KI h with ⟨k,a,rfl⟩ | ⟨a,rfl⟩ | ⟨a,rfl⟩
    ·obtain⟨k',hu⟩:=fits_int h
     exact MD1
    ·have hu:=fits_string h
     exact MD1
    ·have hu:=fits_bool h
     exact MD1
   ·cases h
end
end Go.Proofs.YtkegmchjobphdaaGreatDoor.Y
namespace Go.Proofs.YtkegmchjobphdaaGreatDoor.Y
open Go
section
variable {P:Program} {Γ:Gm} {w:World}
theorem aEV {t ty:TypeId} {x:AV} {x':Value} {v:AV} (hx:VR Γ x x') (hv:(Oh P t x).EW v):∃ v',(Builtin.len_ #[t] ty #[x']).run P w=.ok v' w/\VR Γ v v':=by
 have sl:∀ {e:TypeId} {a:Option Addr} {n c:Nat},P.underlying t=some (.slice e)->∃ v',(Builtin.len_ #[t] ty #[.slice a n c]).run P w=.ok v' w/\VR Γ (vI .i64 n) v':=by
  intro e a n c hu
  exact MGm
 unfold Oh at hv
 split at hv <;> try exact hv.elim
 ·rename_i hu
  split at hv <;> try exact hv.elim
  rename_i s
  simp only [VR,VP] at hx
  simp only [Ba.EW] at hv
  subst hx;subst hv
  have hsz:(⟨⟨s⟩⟩:ByteArray).size=s.length:=rfl
  exact⟨.int .i64 s.length,by simp [Builtin.len_,run_underlying hu,goInt,hsz],by rfl⟩
 ·rename_i e hu
  split at hv <;> try exact hv.elim
  ·simp only [Ba.EW] at hv
   subst hv
   simp only [VR] at hx
   obtain⟨q,hq,_,⟨_,_,rfl,rfl⟩ | ⟨_,_,o,rfl,_⟩⟩:=hx
   ·exact sl hu
   ·exact sl hu
  ·exact MEe
  ·exact MEe
  ·simp only [Ba.EW] at hv
   subst hv
   simp only [VR,VP] at hx
   subst hx
   exact sl hu
 ·rename_i n e hu
  simp only [Ba.EW] at hv
  subst hv
  exact MGm
theorem V9:∀ (l:List UInt8) (acc:ByteArray),(l.map fun b=>(b.toNat:Int)).foldl (fun r n=>r.push (UInt8.ofNat n.toNat)) acc=⟨acc.data++⟨l⟩⟩
 | [],acc=>by cases acc;simp
 | b::l,acc=>by
  have hb:UInt8.ofNat (Int.toNat (b.toNat:Int))=b:=by simp
  simp only [kI,jG]
  rw [hb,V9 l]
  cases acc
  simp [ByteArray.push]
theorem mP {fz:FW}:∀ {l:List UInt8} {us:List Value},Ey fz (l.map ub) us->us=l.map fun b=>.int .u8 (b.toNat:Int)
 | [],us,h=>by trivial
 | b::l,us,h=>by
  simp only [kI,Ey,ub,VP] at h
  obtain⟨u,Rk,rfl,rfl,h⟩:=h
  rw [mP h];rfl
theorem fT {b o n c:Nat} {l:List UInt8} (hl:l.length=n) (h:∀ (j:Nat) (u:Value),(l.map fun b=>(Value.int .u8 (b.toNat:Int)))[j]?=some u->w.cell? ⟨b,o+j,none⟩=some u) :
  (Conv.bytesToString (.slice (some ⟨b,o,none⟩) n c)).run P w=.ok (.string ⟨⟨l⟩⟩) w:=by
 have h1:=Qi (P:=P) b o (l.map fun b=>(Value.int .u8 (b.toNat:Int))) h
 rw [qB,hl] at h1
 have:=run_bytesToString (P:=P) w ⟨b,o,none⟩ n c (l.map fun b=>(b.toNat:Int)) MAe
 rw [this,V9]
 simp
theorem uZ {C:Cx} {H:Hp} (h:R C Γ H w) {x:AV} {x':Value} {v:AV} (hx:VR Γ x x') (hv:(Nb x (Aq H.l)).EW v):∃ v',(Conv.bytesToString x').run C.P w=.ok v' w/\VR Γ v v':=by
 have emp:∀ {a:Option Addr} {c:Nat},(Conv.bytesToString (.slice a 0 c)).run C.P w=.ok (.string .empty) w:=by
  intro a c
  cases a with
  | none=>rfl
  | some a=>
   rfl
 unfold Nb at hv
 split at hv <;> try exact hv.elim
 ·simp only [VR,VP] at hx
  simp only [Ba.EW] at hv
  subst hx;subst hv
  exact MHN
 ·rename_i xs
  obtain⟨s,rfl,rfl⟩:=hv
  simp only [VR,VP] at hx
  rcases hx with ⟨e,a,c,rfl⟩ | ⟨b,o,c,arr,us,rfl,hc,h1,h2,h3⟩
  ·have:s=[]:=MKX
   subst this
   exact MHN
  ·have:=mP h2
   subst this
   obtain⟨t,z,hb⟩:=h.Io b arr h1
   refine⟨_,fT (l:=s) MBV fun j u hj=>?_,by rfl⟩
   simp only [World.cell?,hb,jM,qV,jh,jA]
   exact h3.get hj
 ·rename_i n s off len
  split at hv <;> try exact hv.elim
  rename_i o ho hs
  have hs:=qI hs
  subst hs
  split at hv <;> try exact hv.elim
  rename_i xs Uj
  obtain⟨hle,l,hl,rfl⟩:=hv
  have hll:l.length=len:=by
   have:=qH List.length hl
   simp at this
   omega
  simp only [VR] at hx
  obtain⟨q,hq,dE,Ta⟩:=hx
  rcases Ta with ⟨BF,rfl,rfl,rfl⟩ | ⟨BF,htc,o',rfl,Yu⟩
  ·have:l=[]:=qY hll
   subst this
   exact MHN
  ·rcases kS len with h0 | h0
   ·subst h0
    have:l=[]:=qY hll
    subst this
    exact MHN
   ·obtain⟨q',Gp,Em⟩:=h.Dz n o ho
    rw [hq] at Gp
    injection Gp with e
    subst e
    rcases (BA MIh).1 Em with ⟨e,_⟩ | ⟨_,us,rest,z,h1,h2,h3,SK,h4,h5,h6,h7,h8⟩
    ·simp_all
    ·rw [Uj] at h5
     have h5:=CJ.1 h5
     have h5':=HY len (Ia off h5)
     rw [hl] at h5'
     have PD:=mP h5'
     have Ws:o'=off:=by
      rcases Yu with e | e
      ·rw [e,dE];simp
      ·omega
     subst Ws
     refine⟨_,fT hll fun j u hj=>?_,by rfl⟩
     grind [HZ]
theorem uf {C:Cx} {H:Hp} (h:R C Γ H w) {n:Nat} {o:Ag} {q:Pl} (hn:Aq H.l n=some o) (hc:BV o.c=true) (hq:Γ.nm n=some q) (BF:q.nl=false):ZE C.P Γ w q o:=by
 obtain⟨q',e1,e2⟩:=h.Dz n o hn
 grind [BA]
theorem ug {P:Program} {u:TypeId} {z:Nat} (hc:P.cellsOf u=z+1):liesAt P P.depth u 1 0 u 1=true:=by
 have hd:P.depth=(2 * (P.types.size+Made.depth)+1)+1:=rfl
 rw [hd]
 simp only [liesAt,kW]
 left
 rw [hd]
 simp [rowAt,hc,sameLayout]
theorem aBC {C:Cx} {H:Hp} (h:R C Γ H w) {s d:TypeId} {x:AV} {x':Value} {v:AV} (hx:VR Γ x x') (hv:(Oi C.P s d x (Aq H.l)).EW v):∃ v',(convert s d x').run C.P w=.ok v' w/\VR Γ v v':=by
 unfold Oi at hv
 split at hv <;> try exact hv.elim
 ·rename_i a k hs hd
  split at hv <;> try exact hv.elim
  simp only [VR,VP] at hx
  simp only [Ba.EW] at hv
  rename_i k' n
  subst hx;subst hv
  refine⟨.int k (k.wrap n),?_,by rfl⟩
  cases a <;> simp [convert,run_underlying hs,run_underlying hd,Conv.intToInt]
 ·rename_i a hs hd
  split at hv <;> try exact hv.elim
  ·simp only [VR,VP] at hx
   simp only [Ba.EW] at hv
   rename_i b
   subst hx;subst hv
   refine⟨.string ⟨⟨b⟩⟩,?_,by rfl⟩
   cases a <;> simp [convert,run_underlying hs,run_underlying hd]
  ·simp only [VR,VP] at hx
   simp only [Ba.EW] at hv
   rename_i b n
   subst hx;subst hv
   refine⟨.string (Utf8.encode n),?_,by rfl⟩
   cases a <;> simp [convert,run_underlying hs,run_underlying hd,Conv.intToString]
  ·split at hv <;> try exact hv.elim
   rename_i hb
   unfold ma at hb
   split at hb <;> try (cases hb;done)
   rename_i e
   split at hb <;> try (cases hb;done)
   rename_i k he
   have hk:k=.u8:=by simpa using hb
   subst hk
   obtain⟨v',h1,h2⟩:=uZ h hx hv
   refine⟨v',?_,h2⟩
   have Ta:∃ a n c,x'=.slice a n c:=by
    unfold Nb at hv
    split at hv <;> try exact hv.elim
    ·simp only [VR,VP] at hx;exact⟨_,_,_,hx⟩
    ·simp only [VR,VP] at hx
     rcases hx with ⟨_,_,_,rfl⟩ | ⟨_,_,_,_,_,rfl,_⟩ <;> exact⟨_,_,_,rfl⟩
    ·simp only [VR,SlR] at hx
     obtain⟨_,_,_,⟨_,_,_,rfl⟩ | ⟨_,_,_,rfl,_⟩⟩:=hx <;> exact⟨_,_,_,rfl⟩
   obtain⟨a,n,c,rfl⟩:=Ta
   simp [convert,run_underlying hs,run_underlying hd,run_underlying he,h1]
 ·rename_i t hs hd
  split at hv <;> try exact hv.elim
  rename_i n i f
  split at hv <;> try exact hv.elim
  rename_i o z hi ho hz
  have hi:=qI hi
  subst hi
  split at hv <;> try exact hv.elim
  rename_i cs Uj
  split at hv <;> try exact hv.elim
  rename_i hf
  have hf:f<cs.length:=by simpa using hf
  simp only [Ba.EW] at hv;subst hv
  have hx0:=hx
  simp only [VR] at hx
  obtain⟨q,hq,BF,rfl⟩:=hx
  obtain⟨us,rest,zz,h1,h2,h3,SK,h4,h5,h6,h7,h8⟩:=uf h ho MIh hq BF
  rw [Uj] at h5
  have hlu:=BH h5
  simp only [flat] at hlu
  obtain⟨j,hj,hjs⟩:=JE hz
  exact⟨_,Lib.run_to_unsafe w _ hs hd hj (by rw [hjs];simp) (by simp only [World.shape?,h1];rfl) MEL,hx0⟩
 ·rename_i u hs hd
  split at hv <;> try exact hv.elim
  rename_i n i f
  split at hv <;> try exact hv.elim
  rename_i o z hi ho hz
  simp only [qC] at hi
  have fI:=qI hi.1
  have hi2:=qI hi.2
  subst fI;subst hi2
  split at hv <;> try exact hv.elim
  rename_i cs Uj htu
  simp only [Ba.EW] at hv;subst hv
  have hx0:=hx
  simp only [VR] at hx
  obtain⟨q,hq,BF,rfl⟩:=hx
  obtain⟨us,rest,zz,h1,h2,h3,SK,h4,h5,h6,h7,h8⟩:=uf h ho MIh hq BF
  rw [Uj] at h7
  obtain⟨_,htc⟩:=h7
  obtain⟨j,hj,hjs⟩:=JE hz
  have hce:C.P.cellsOf u=z+1:=by simp [Program.cellsOf,hj,hjs]
  obtain⟨k,hk⟩:∃ k,q.s=k+1:=⟨q.s - 1,by omega⟩
  rw [hk] at h3
  obtain⟨j2,hj2,aQ6⟩:=JE h3
  have hcE:C.P.cellsOf o.t=k+1:=by simp [Program.cellsOf,hj2,aQ6]
  have hl:liesAt C.P C.P.depth o.t 1 0 u 1=true:=by
   rcases Bool.or_eq_true_iff.1 htu with h9 | h9
   ·have h9:=qI h9
    rw [h9];exact ug hce
   ·exact h9
  refine⟨_,Lib.run_from_unsafe w _ hs hd hj (by simp only [World.shape?,h1];rfl) ?_,hx0⟩
  simp_all
theorem Qe {b:Bool} {v:Value} (h:VR Γ (vB b) v):v=.bool b:=MDL
theorem aBD {k:IntKind} {n:Int} {v:Value} (h:VR Γ (vI k n) v):v=.int k n:=MDL
theorem LX {a b:AV} {a' b':Value} (ha:VR Γ a a') (hb:VR Γ b b'):VR Γ (.GG [a,b]) (.tuple #[a',b']):=by
 simp only [VR]
 exact⟨_,rfl,by simp only [CX];grind⟩
theorem JO {x:AV} {x':Value} (hx:VR Γ x x'):(IU x=some none->x'=.nilIface)/\(∀ t v,IU x=some (some (t,v))->∃ u,x'=.iface t u/\VR Γ v u):=by
 cases x with
 | p x=>
  cases x <;> simp only [IU,reduceCtorEq,false_implies,implies_true,and_true,qo,jQ,zL,and_self,forall_const]
  ·rintro t v ⟨rfl,rfl⟩
   trivial
  trivial
 | iface t v=>
  simp only [IU,reduceCtorEq,false_implies,qo,jQ,zL]
  rintro t v ⟨rfl,rfl⟩
  trivial
 | _=>simp [IU]
theorem mf {x:AV} {x':Value} {v:AV} {xt t:TypeId} {ok:Bool} (hx:VR Γ x x') (hv:(Qm P x t ok).EW v):∃ v',(Instr.typeAssert x' xt t ok).run P w=.ok v' w/\VR Γ v v':=by
 obtain⟨hn,hi⟩:=JO hx
 have hb (b:Bool):VR Γ (vB b) (.bool b):=by simp only [VR,VP]
 unfold Qm at hv
 split at hv <;> try exact hv.elim
 rename_i d hu
 split at hv <;> try exact hv.elim
 rename_i hc
 split at hv <;> try exact hv.elim
 ·rename_i u y e
  obtain⟨y',rfl,hy⟩:=hi _ _ e
  split at hv <;> try exact hv.elim
  ·rename_i hbq
   simp only [Ba.EW] at hv
   subst hv
   have hbq:=qI hbq
   subst hbq
   refine⟨.tuple #[y', .bool true],?_,LX hy (hb _)⟩
   exact MHB
  ·rename_i z hbq hz
   simp only [Ba.EW] at hv
   subst hv
   obtain⟨z',hzr,hzc⟩:=Kh hz w Γ
   have hbq:u ≠ t:=by
    intro e;subst e
    simp at hbq
   refine⟨.tuple #[z', .bool false],?_,LX hzc (hb _)⟩
   cases d <;> first | (simp [aGs] at hc;done) | simp [Instr.typeAssert,run_underlying hu,hbq,hzr]
 ·rename_i u y e
  obtain⟨y',rfl,hy⟩:=hi _ _ e
  split at hv <;> try exact hv.elim
  rename_i hbq
  simp only [Ba.EW] at hv
  subst hv
  have hbq:=qI hbq
  subst hbq
  refine⟨y',?_,hy⟩
  exact MHB
 ·rename_i e
  have:=hn e
  subst this
  split at hv <;> try exact hv.elim
  rename_i z hz
  simp only [Ba.EW] at hv
  subst hv
  obtain⟨z',hzr,hzc⟩:=Kh hz w Γ
  refine⟨.tuple #[z', .bool false],?_,LX hzc (hb _)⟩
  cases d <;> first | (simp [aGs] at hc;done) | simp [Instr.typeAssert,run_underlying hu,hzr]
theorem ZH {k:IntKind}:∀ {l:List AV} {l':List Value} {a m:Int},CX Γ l l'->aEW a l=some m->(l'.foldlM Builtin.min2 (.int k a)).run P w=.ok (.int k m) w
 | [],_,a,m,h,hm=>by
  simp only [CX] at h
  subst h
  simp only [aEW,qo] at hm
  subst hm
  rfl
 | v::vs,_,a,m,h,hm=>by
  simp only [CX] at h
  obtain⟨u,us,rfl,h1,h2⟩:=h
  cases v with
  | p v=>
   cases v <;> simp only [aEW,reduceCtorEq] at hm
   simp only [VR,VP] at h1
   subst h1
   rw [kM,Sem.run_bind]
   simp only [Builtin.min2,Sem.run_pure,Result.andThen_ok]
   exact ZH h2 hm
  | _=>simp [aEW] at hm
theorem ZI {k:IntKind}:∀ {l:List AV} {l':List Value} {a m:Int},CX Γ l l'->aEX a l=some m->(l'.foldlM Builtin.max2 (.int k a)).run P w=.ok (.int k m) w
 | [],_,a,m,h,hm=>by
  simp only [CX] at h
  subst h
  simp only [aEX,qo] at hm
  subst hm
  rfl
 | v::vs,_,a,m,h,hm=>by
  simp only [CX] at h
  obtain⟨u,us,rfl,h1,h2⟩:=h
  cases v with
  | p v=>
   cases v <;> simp only [aEX,reduceCtorEq] at hm
   simp only [VR,VP] at h1
   subst h1
   rw [kM,Sem.run_bind]
   simp only [Builtin.max2,Sem.run_pure,Result.andThen_ok]
   exact ZI h2 hm
  | _=>simp [aEX] at hm
def Pw:Value->List Value
 | .agg cs=>cs.toList
 | v=>[v]
theorem H8 (v:Value):v.cells.toList=Pw v:=by cases v <;> rfl
theorem fJ {fz:FW} {v:PV} {cs:Array Value} (h:VP fz v (.agg cs)):∃ l,v=.agg l:=by
 cases v <;> simp [VP] at h
 simp_all
theorem aEY {v:AV} {cs:Array Value} (h:VR Γ v (.agg cs)):known v=false∨(∃ l,v=.agg l)∨∃ l,v=.p (.agg l):=by
 cases v with
 | p v=>simp only [VR] at h;obtain⟨l,rfl⟩:=fJ h;simp_all
 | agg l=>simp_all
 | junk=>exact .inl rfl
 | ptr=>simp [VR,uY] at h
 | Lx=>simp [VR,uY] at h
 | sl=>simp [VR,SlR] at h
 | mp=>simp [VR] at h
 | fn=>simp [VR] at h
 | iface=>simp [VR] at h
 | GG=>simp [VR] at h
 | LC=>simp [VR] at h
theorem Na {v:AV} {v':Value} (h:VR Γ v v') (hk:known v=true):CX Γ (BI v) (Pw v'):=by
 by_cases ha:∃ cs,v'=.agg cs
 ·obtain⟨Dt,rfl⟩:=ha
  rcases aEY h with e | ⟨l,rfl⟩ | ⟨l,rfl⟩
  ·simp_all
  ·simp only [VR] at h
   obtain⟨aQ7,e,h2⟩:=h
   injection e with e
   subst e
   exact h2
  ·simp only [VR,VP] at h
   obtain⟨aQ7,e,h2⟩:=h
   injection e with e
   subst e
   simp only [BI,Pw]
   exact CJ.2 h2
 ·have h2:Pw v'=[v']:=by
   cases v' <;> first | rfl | exact absurd MX ha
  have h1:BI v=[v]:=by
   cases v with
   | p v=>
    cases v <;> first | rfl | skip
    grind [VR,VP]
   | agg l=>
    grind [VR]
   | _=>rfl
  rw [h1,h2]
  simp only [CX]
  simp_all
theorem aGt (cells:Array Value) (off:Nat):∀ (vs:List Value) (k:Nat) (cs:Array Value),cs.toList=cells.toList ->
  ((vs.zipIdx k).foldl (fun cs (c:Value × Nat)=>cs.setIfInBounds (off+c.2) c.1) cs).toList=Fv cells.toList (off+k) vs:=by
 intro vs
 induction vs generalizing cells with
 | nil=>
  intro k cs h
  simp only [List.zipIdx_nil,List.foldl_nil,h]
  apply kU
  grind [GI]
 | cons v vs ih=>
  intro k cs h
  simp only [zW,jG]
  rw [ih (cs.setIfInBounds (off+k) v) (k+1) _ rfl]
  grind [WB]
theorem Qj {ev:Operand->AV} {Nz:Operand->Value} (Fa:∀ x,VR Γ (ev x) (Nz x)) {place:Nat->Option (Nat × Nat)}:∀ (parts:List (Nat × Operand)) {cs:List AV} {Dt:Array Value} {r:List AV},
  (∀ p∈parts,known (ev p.2)=true)->CX Γ cs Dt.toList->bld ev place cs parts=some r ->
  ∃ r',Instr.fill place Dt (parts.map fun p=>(p.1,Nz p.2))=some r'/\CX Γ r r'.toList
 | [],cs,Dt,r,_,hc,hb=>by
  simp only [bld,qo] at hb
  subst hb
  exact⟨Dt,rfl,hc⟩
 | (i,x)::rest,cs,Dt,r,hk,hc,hb=>by
  simp only [bld] at hb
  split at hb
  ·cases hb
  ·rename_i off s hp
   split at hb
   ·rename_i aGu
    simp only [qC] at aGu
    have h1:=qI aGu.1
    have h2:=qp aGu.2
    have hx:=Na (Fa x) (hk (i,x) MBV)
    have hlx:=BH hx
    have hlc:=BH hc
    have aSL:Dt.size=cs.length:=by simpa using hlc
    have hcx:(Nz x).cells.size=s:=by
     have:=H8 (Nz x)
     rw [<- vL,this,hlx,h1]
    have bK:CX Γ (Fv cs off (BI (ev x))) (((Nz x).cells.zipIdx.foldl (fun cs (c:Value × Nat)=>cs.setIfInBounds (off+c.2) c.1) Dt)).toList:=by
     have e:((Nz x).cells.zipIdx.foldl (fun cs (c:Value × Nat)=>cs.setIfInBounds (off+c.2) c.1) Dt).toList=Fv Dt.toList off (Pw (Nz x)):=by
      have:=aGt Dt off (Pw (Nz x)) 0 Dt rfl
      rw [<- H8] at this ⊢
      rw [<- Array.foldl_toList,Array.toList_zipIdx]
      exact MHw
     rw [e]
     exact aCZ _ hc hx
    obtain⟨r',h3,h4⟩:=Qj Fa rest (fun p hp=>hk p (by simp [hp])) bK hb
    refine⟨r',?_,h4⟩
    simp only [kI,Instr.fill,hp]
    simp_all
   ·cases hb
theorem run_places:∀ (fs:List Field),Px P fs=true->(fs.mapM (fun (f:Field)=>(Prod.mk f.offset <$> sizeOf f.type:Sem (Nat × Nat)))).run P w=.ok (fs.map fun f=>(f.offset,(szOf P f.type).getD 0)) w
 | [],_=>rfl
 | f::fs,h=>by
  simp only [Px,qC] at h
  obtain⟨s,hs⟩:=jH.1 h.1
  have ih:=run_places fs h.2
  rw [zl]
  simp [CO hs,ih,hs]
theorem Og {t:TypeId} {z:PV} (hz:zeroOf P t=some z) (w:World):∃ z',(zeroValue t).run P w=.ok z' w/\CX Γ (BI (.p z)) z'.cells.toList:=by
 obtain⟨z',hzr,hzc⟩:=Kh hz w Γ
 exact⟨z',hzr,by rw [H8];exact Na hzc rfl⟩
theorem uh {t:TypeId} {parts:Array (Nat × Operand)} {ev:Operand->AV} {Nz:Operand->Value} (Fa:∀ x,VR Γ (ev x) (Nz x)) {v:AV} (hv:(Tf P t parts.toList ev).EW v) :
  ∃ v',(Instr.build t (parts.map fun p=>(p.1,Nz p.2))).run P w=.ok v' w/\VR Γ v v':=by
 unfold Tf at hv
 split at hv <;> try exact hv.elim
 ·rename_i z fs hz hu hk
  obtain⟨z',hzr,hz0⟩:=Og (Γ:=Γ) hz w
  split at hv <;> try exact hv.elim
  rename_i cs ha hb
  simp only [Ba.EW] at hv
  subst hv
  have Vr:∀ p∈parts.toList,known (ev p.2)=true:=qi.1 hk
  obtain⟨r',h1,h2⟩:=Qj (Γ:=Γ) Fa parts.toList Vr hz0 hb
  refine⟨.agg r',?_,Tg.2 MEE⟩
  have II:(fs.mapM (fun (f:Field)=>(Prod.mk f.offset <$> sizeOf f.type:Sem (Nat × Nat)))).run P w=.ok (fs.map fun f=>(f.offset,(szOf P f.type).getD 0)) w:=by
   obtain⟨fl⟩:=fs
   have:=run_places (w:=w) fl ha
   rw [List.mapM_toArray]
   simp [this]
  have uj:Instr.fill ((fs.map fun f=>(f.offset,(szOf P f.type).getD 0))[·]?) z'.cells (parts.map fun p=>(p.1,Nz p.2)).toList=some r':=by
   have:((fs.map fun f=>(f.offset,(szOf P f.type).getD 0))[·]?:Nat->Option (Nat × Nat))=Py P fs.toList:=by
    funext i
    unfold Py
    rw [mg,Array.getElem?_map,<- kJ (xs:=fs)]
    cases hi:fs.toList[i]? with
    | none=>rfl
    | some f=>
     simp only [xg]
     have hs:(szOf P f.type).isSome=true:=by
      have hm:f∈fs.toList:=jD hi
      clear hb h1 II hi hu
      generalize fs.toList=fl at ha hm
      induction fl with
      | nil=>simp at hm
      | cons g gs ih=>
       simp only [Px,qC] at ha
       grind
     grind
   rw [this]
   simpa using h1
  simp only [Array.getElem?_map,xx] at uj
  simp [Instr.build,hzr,run_underlying hu,II,uj]
 ·rename_i z n e hz hu hk
  obtain⟨z',hzr,hz0⟩:=Og (Γ:=Γ) hz w
  split at hv <;> try exact hv.elim
  rename_i s hs
  split at hv <;> try exact hv.elim
  rename_i cs hb
  simp only [Ba.EW] at hv
  subst hv
  have Vr:∀ p∈parts.toList,known (ev p.2)=true:=qi.1 hk
  obtain⟨r',h1,h2⟩:=Qj (Γ:=Γ) Fa parts.toList Vr hz0 hb
  refine⟨.agg r',?_,Tg.2 MEE⟩
  have uj:Instr.fill (fun i=>some (i * s,s)) z'.cells (parts.map fun p=>(p.1,Nz p.2)).toList=some r':=MJ5
  simp only [xx] at uj
  simp [Instr.build,hzr,run_underlying hu,CO hs,uj]
theorem aMy {x:AV} {x':Value} (h:VR Γ x x') (hk:kd x=.ptr):∃ a,x'=.pointer (some a):=by
 have:=ZJ h
 rw [hk] at this
 exact this
variable {C:Cx} {H:Hp}
theorem bytes_beq (a b:List UInt8):((⟨⟨a⟩⟩:ByteArray) == ⟨⟨b⟩⟩)=decide (a=b):=by
 rw [beq_toListBytes,str_inj]
theorem findNow_spec {fz:FW} {a:List UInt8}:∀ {es:List (List UInt8 × PV)} {us:List MapEntry} (i:Nat),Q7 fz es us ->
  (∀ x,BR es a=some x->∃ j v',Instr.findNow .string (.string ⟨⟨a⟩⟩) us i=some (some (i+j,v'))/\VP fz x v'/\∃ e,us[j]?=some e/\e.key=.string ⟨⟨a⟩⟩) /\
  (BR es a=none->Instr.findNow .string (.string ⟨⟨a⟩⟩) us i=some none)
 | [],us,i,h=>by
  simp only [Q7] at h
  subst h
  exact⟨fun x hx=>by trivial,fun _=>rfl⟩
 | (k,y)::r,us,i,h=>by
  simp only [Q7] at h
  obtain⟨e,Rk,rfl,h2,h3,h4⟩:=h
  have ih:=findNow_spec (a:=a) (i+1) h4
  by_cases hk:a=k
  ·subst hk
   have e1:Instr.sameNow .string (.string ⟨⟨a⟩⟩) e.key=some true:=MKl
   constructor
   ·intro x hx
    simp only [BR,decide_true] at hx
    injection hx with hx
    subst hx
    exact⟨0,e.val,by simp [Instr.findNow,e1],h3,e,rfl,h2⟩
   grind [BR]
  ·have e1:Instr.sameNow .string (.string ⟨⟨a⟩⟩) e.key=some false:=MKI
   have e2:BR ((k,y)::r) a=BR r a:=by simp [BR,hk]
   rw [e2]
   constructor
   ·intro x hx
    obtain⟨j,v',h5,h6,h7⟩:=ih.1 x hx
    exact⟨j+1,v',by simp only [Instr.findNow,e1,h5];congr 3;omega,h6,h7⟩
   grind [Instr.findNow]
def aJo:Obj->Bool
 | .cells ..=>true
 | _=>false
theorem D9 {b:Nat} {x:Obj} (h:w.heap[b]?=some x) (hx:aJo x=false):(getObj b).run P w=.ok x w:=by
 grind [aJo,getObj,Sem.run]
theorem run_checkKey {kt:TypeId} (hk:P.underlying kt=some .string) (b:Bool) (s:ByteArray):(Instr.checkKey b 10000 kt (.string s)).run P w=.ok () w:=by
 rw [show(10000:Nat)=9999+1 from rfl]
 unfold Instr.checkKey
 simp only [Sem.run_bind,run_underlying hk,Result.andThen_ok]
 rfl
theorem run_findKey {kt:TypeId} (hk:P.underlying kt=some .string) {a:List UInt8} {us:List MapEntry} {r:Option (Nat × Value)} (h:Instr.findNow .string (.string ⟨⟨a⟩⟩) us 0=some r) :
  (Instr.findKey kt (.string ⟨⟨a⟩⟩) us).run P w=.ok r w:=by
 simp [Instr.findKey,run_underlying hk,h]
theorem uk {fz:FW}:∀ {es:List (List UInt8 × PV)} {us:List MapEntry},Q7 fz es us->us.length=es.length
 | [],us,h=>by
  simp only [Q7] at h
  subst h;rfl
 | (k,y)::r,us,h=>by
  simp only [Q7] at h
  obtain⟨e,Rk,rfl,_,_,h4⟩:=h
  rw [qR,qR,uk h4]
theorem aBE (h:R C Γ H w) {t ty:TypeId} {x:AV} {x':Value} {v:AV} (hx:VR Γ x x') (hv:(Kj C.P t x (Aq H.l)).EW v):∃ v',(Builtin.len_ #[t] ty #[x']).run C.P w=.ok v' w/\VR Γ v v':=by
 unfold Kj at hv
 split at hv
 ·rename_i n
  split at hv <;> try exact hv.elim
  rename_i kt e hu
  split at hv <;> try exact hv.elim
  rename_i o ho
  split at hv <;> try exact hv.elim
  rename_i es hc
  simp only [VR] at hx
  obtain⟨q,hq,rfl⟩:=hx
  obtain⟨q',Gp,Em⟩:=h.Dz n o ho
  rw [hq] at Gp
  injection Gp with e'
  subst e'
  obtain⟨t0,fr0,c0⟩:=o
  simp only at hc
  subst hc
  simp only [Cv] at Em
  obtain⟨_,_,us,kk,Em,U6⟩:=Em
  simp only [Ba.EW] at hv
  subst hv
  have hl:=uk U6
  refine⟨.int .i64 (es.length:Nat),?_,by rfl⟩
  have hs:us.size=es.length:=by rw [<- hl];simp
  simp [Builtin.len_,run_underlying hu,D9 Em rfl,goInt,hs]
 ·exact aEV hx hv
theorem um (h:R C Γ H w) {t:TypeId} {m k:AV} {m' k':Value} {ok:Bool} {v:AV} (hm:VR Γ m m') (hk:VR Γ k k') (hv:(Pz C.P t m k ok (Aq H.l)).EW v) :
  ∃ v',(Instr.lookup t m' k' ok).run C.P w=.ok v' w/\VR Γ v v':=by
 unfold Pz at hv
 split at hv <;> try exact hv.elim
 rename_i kt e hu
 split at hv <;> try exact hv.elim
 rename_i a z uB hz
 have hk:k'=.string ⟨⟨a⟩⟩:=by simpa only [VR,VP] using hk
 subst hk
 obtain⟨z',hz1,hz2⟩:=Kh hz w Γ
 split at hv
 ·rename_i n
  split at hv <;> try exact hv.elim
  rename_i o ho
  split at hv <;> try exact hv.elim
  rename_i es hc
  simp only [VR] at hm
  obtain⟨q,hq,rfl⟩:=hm
  obtain⟨q',Gp,Em⟩:=h.Dz n o ho
  rw [hq] at Gp
  injection Gp with e'
  subst e'
  obtain⟨t0,fr0,c0⟩:=o
  simp only at hc
  subst hc
  simp only [Cv] at Em
  obtain⟨_,_,us,kk,Em,U6⟩:=Em
  have hS:=findNow_spec (a:=a) 0 U6
  simp only [Ba.EW] at hv
  rcases hv with ⟨x,hx,rfl⟩ | ⟨hx,rfl⟩
  ·obtain⟨j,v',h1,h2,_⟩:=hS.1 x hx
   have h3:=run_findKey (w:=w) uB h1
   refine⟨if ok then .tuple #[v', .bool true] else v',?_,?_⟩
   ·simp [Instr.lookup,run_underlying hu,D9 Em rfl,run_checkKey uB,h3]
   ·cases ok
    ·trivial
    grind [LX,VR,VP]
  ·have h3:=run_findKey (w:=w) uB (hS.2 hx)
   refine⟨if ok then .tuple #[z', .bool false] else z',?_,?_⟩
   ·simp [Instr.lookup,run_underlying hu,D9 Em rfl,run_checkKey uB,h3,hz1]
   grind [LX,VR,VP]
 ·simp only [VR,VP] at hm
  subst hm
  have h3:=run_findKey (P:=C.P) (w:=w) uB (a:=a) (us:=[]) (r:=none) rfl
  simp only [Ba.EW] at hv
  subst hv
  refine⟨if ok then .tuple #[z', .bool false] else z',?_,?_⟩
  ·simp [Instr.lookup,run_underlying hu,run_checkKey uB,h3,hz1]
  grind [LX,VR,VP]
 ·exact hv.elim
theorem Ga:∀ {xs ys:List PV},Aw xs ys=true->Aw ys xs=true
 | [],[],_=>rfl
 | [],_::_,h=>by trivial
 | _::_,[],h=>by trivial
 | x::xs,y::ys,h=>by
  simp only [Aw,qC] at h ⊢
  refine⟨?_,Ga h.2⟩
  have h1:=h.1
  cases x <;> cases y <;> simp_all [sameKind]
theorem Fu:∀ {xs ys zs:List PV},Aw xs ys=true->Aw ys zs=true->Aw xs zs=true
 | [],[],_,_,h=>h
 | [],_::_,_,h,_=>by trivial
 | _::_,[],_,h,_=>by trivial
 | x::xs,y::ys,[],_,h=>by trivial
 | x::xs,y::ys,z::zs,h,k=>by
  simp only [Aw,qC] at h k ⊢
  refine⟨?_,Fu h.2 k.2⟩
  have h1:=h.1
  have k1:=k.1
  cases x <;> cases y <;> cases z <;> simp_all [sameKind]
theorem aER {kt:TypeId} {fs:Array Field} (hk:P.underlying kt=some (.struct fs)) (xs:List PV):P5 P kt xs=.agg ⟨xs.map real⟩:=by
 grind [P5]
theorem uo {fz:FW} {zs a:List PV} {kt:TypeId} {fs:Array Field} (hk:P.underlying kt=some (.struct fs)) (hz:NW P 9 kt zs=true) (ha:Aw zs a=true):∀ {es:List (List PV × PV)} {us:List MapEntry} (i:Nat),U8 fz zs es us ->
  (∀ x,H9 es a=some x->∃ j v',(Instr.findAsking kt (.agg ⟨a.map real⟩) us i).run P w=.ok (some (i+j,v')) w/\VP fz x v'/\∃ e,us[j]?=some e/\e.key=.agg ⟨a.map real⟩) /\
  (H9 es a=none->(Instr.findAsking kt (.agg ⟨a.map real⟩) us i).run P w=.ok none w)
 | [],us,i,h=>by
  simp only [U8] at h
  subst h
  exact⟨fun x hx=>by trivial,fun _=>by rfl⟩
 | (k,y)::r,us,i,h=>by
  simp only [U8] at h
  obtain⟨e,Rk,rfl,⟨h1,h2⟩,h3,h4⟩:=h
  have ih:=uo hk hz ha (i+1) h4
  obtain⟨b,hb,Jn⟩:=mK (P:=P) (w:=w) 9 kt a k (H7 9 kt zs a hz ha) (Fu (Ga ha) h1) 9991
  rw [aER hk,aER hk] at hb
  have hb:(Op.equal kt (.agg ⟨a.map real⟩) e.key).run P w=.ok b w:=by rw [h2];exact hb
  by_cases e1:a=k
  ·have uC:b=true:=Jn.2 e1
   subst uC
   have e2:H9 ((k,y)::r) a=some y:=by rw [H9,qM e1]
   constructor
   ·intro x hx
    rw [e2] at hx
    injection hx with hx
    subst hx
    exact⟨0,e.val,by simp [Instr.findAsking,hb],h3,e,rfl,by rw [h2,e1]⟩
   simp_all
  ·have hbf:b=false:=by
    cases b with
    | false=>rfl
    | true=>simp_all
   subst hbf
   have e2:H9 ((k,y)::r) a=H9 r a:=by rw [H9,qG e1]
   rw [e2]
   constructor
   ·intro x hx
    obtain⟨j,v',h5,h6,h7⟩:=ih.1 x hx
    refine⟨j+1,v',?_,h6,h7⟩
    exact MKh
   exact MKh
theorem TV {kt:TypeId} {fs:Array Field} (hk:P.underlying kt=some (.struct fs)) (cs:Array Value) (us:List MapEntry) :
  (Instr.findKey kt (.agg cs) us).run P w=(Instr.findAsking kt (.agg cs) us 0).run P w:=by
 unfold Instr.findKey
 simp only [Sem.run_bind,run_underlying hk,Result.andThen_ok]
 cases us with
 | nil=>rfl
 | cons e us=>rfl
theorem uq (h:R C Γ H w) {t:TypeId} {m k:AV} {m' k':Value} {ok:Bool} {v:AV} (hm:VR Γ m m') (hk:VR Γ k k') (hv:(P6 C.P t m k ok (Aq H.l)).EW v) :
  ∃ v',(Instr.lookup t m' k' ok).run C.P w=.ok v' w/\VR Γ v v':=by
 unfold P6 at hv
 split at hv <;> try exact hv.elim
 rename_i kt e hu
 split at hv <;> try exact hv.elim
 rename_i fs cs z uB hz
 obtain⟨z',hz1,hz2⟩:=Kh hz w Γ
 split at hv <;> try exact hv.elim
 rename_i n
 split at hv <;> try exact hv.elim
 rename_i o ho
 split at hv <;> try exact hv.elim
 rename_i zs es hc
 simp only [Ba.EW] at hv
 obtain⟨U9,hv⟩:=hv
 simp only [qC] at U9
 simp only [VR,VP] at hk
 obtain⟨Dt,rfl,JM⟩:=hk
 have uD:=(IY (Fu (Ga U9.2) U9.2) JM JM).1
 obtain⟨lcs⟩:=Dt
 simp only at uD
 subst uD
 simp only [VR] at hm
 obtain⟨q,hq,rfl⟩:=hm
 obtain⟨q',Gp,Em⟩:=h.Dz n o ho
 rw [hq] at Gp
 injection Gp with e'
 subst e'
 obtain⟨t0,fr0,c0⟩:=o
 simp only at hc
 subst hc
 simp only [Cv] at Em
 obtain⟨_,_,us,kk,Em,U6⟩:=Em
 have hS:=uo (P:=C.P) (w:=w) (a:=cs) uB U9.1 U9.2 0 U6
 have hck:∀ b,(Instr.checkKey b 10000 kt (.agg ⟨cs.map real⟩)).run C.P w=.ok () w:=fun b=>by
  have:=Y0 (P:=C.P) (w:=w) (b:=b) 9 kt cs (H7 9 kt zs cs U9.1 U9.2) 9991
  grind [aER]
 have hfk:=TV (P:=C.P) (w:=w) uB ⟨cs.map real⟩ us.toList
 rcases hv with ⟨x,hx,rfl⟩ | ⟨hx,rfl⟩
 ·obtain⟨j,v',h1,h2,_⟩:=hS.1 x hx
  rw [h1] at hfk
  refine⟨if ok then .tuple #[v', .bool true] else v',?_,?_⟩
  ·simp [Instr.lookup,run_underlying hu,D9 Em rfl,hck,hfk]
  ·cases ok
   ·trivial
   grind [LX,VR,VP]
 ·rw [hS.2 hx] at hfk
  refine⟨if ok then .tuple #[z', .bool false] else z',?_,?_⟩
  ·simp [Instr.lookup,run_underlying hu,D9 Em rfl,hck,hfk,hz1]
  grind [LX,VR,VP]
theorem aBF (h:R C Γ H w) {t:TypeId} {m k:AV} {m' k':Value} {ok:Bool} {v:AV} (hm:VR Γ m m') (hk:VR Γ k k') (hv:(Ti C.P t m k ok (Aq H.l)).EW v) :
  ∃ v',(Instr.lookup t m' k' ok).run C.P w=.ok v' w/\VR Γ v v':=by
 unfold Ti at hv
 grind [uq,um]
theorem KE (h:R C Γ H w) {ev:Operand->AV} {Nz:Operand->Value} (Fa:∀ x,VR Γ (ev x) (Nz x)) (o:Oper) {v:AV} (hv:(pop C.P o.op ev (Aq H.l)).EW v) :
  ∃ v',(execOp Nz o).run C.P w=.ok (.value v') w/\VR Γ v v':=by
 have lift:∀ {s:Sem Value},(∃ v',s.run C.P w=.ok v' w/\VR Γ v v')->∃ v',(do pure (.value (<- s)):Sem Next).run C.P w=.ok (.value v') w/\VR Γ v v':=by
  rintro s ⟨v',h1,h2⟩
  exact⟨v',by simp [h1],h2⟩
 obtain⟨dst,op,type,pos,after,guard⟩:=o
 simp only at hv
 unfold pop at hv
 split at hv
 ·exact MJV
 ·exact MJV
 ·rename_i c a b
  have hc:=Fa c
  split at hv
  ·rename_i e
   rw [e] at hc
   have hc:=Qe hc
   simp only [Ba.EW] at hv;subst hv
   exact⟨Nz a,by simp [execOp,hc,asBool],Fa a⟩
  ·rename_i e
   rw [e] at hc
   have hc:=Qe hc
   simp only [Ba.EW] at hv;subst hv
   exact⟨Nz b,by simp [execOp,hc,asBool],Fa b⟩
  ·exact hv.elim
 ·rename_i t a
  exact lift (Yj h (Fa a) hv)
 ·rename_i x
  have hx:=Fa x
  split at hv
  ·rename_i e
   obtain⟨a,e'⟩:=aMy hx e
   simp only [Ba.EW] at hv;subst hv
   refine⟨Nz x,?_,hx⟩
   simp [execOp,e']
  ·split at hv
   ·rename_i f a b e
    rw [e] at hx
    simp only [Ba.EW] at hv;subst hv
    refine⟨Nz x,?_,hx⟩
    simp only [VR,FR] at hx
    obtain⟨fn',bf,Dt,e',rfl,_⟩:=hx
    simp [execOp,e']
   ·rename_i f a b e
    rw [e] at hx
    simp only [Ba.EW] at hv;subst hv
    refine⟨Nz x,?_,hx⟩
    simp only [VR,VP] at hx
    obtain⟨_,bf,Dt,e',_⟩:=hx
    simp [execOp,e']
   ·exact hv.elim
 ·rename_i op t x y ty
  exact lift (aEZ (Fa x) (Fa y) hv)
 ·rename_i op t x
  have hx:=Fa x
  split at hv
  ·rename_i b e
   rw [e] at hx
   have hx:=Qe hx
   simp only [Ba.EW] at hv;subst hv
   exact⟨.bool (!b),by simp [execOp,hx,Op.unary],by rfl⟩
  ·rename_i k n e
   rw [e] at hx
   have hx:=aBD hx
   simp only [Ba.EW] at hv;subst hv
   exact⟨.int k (k.wrap (0 - n)),by simp [execOp,hx,Op.unary,Op.intArith],by rfl⟩
  ·exact hv.elim
 ·rename_i s d x
  exact lift (aBC h (Fa x) hv)
 ·rename_i t x
  split at hv
  ·exact hv.elim
  ·rename_i d aMw hu
   simp only [Ba.EW] at hv;subst hv
   refine lift ⟨.iface t (Nz x),?_,aJx.2 MEE⟩
   cases d <;> first | (exact absurd rfl (aMw _)) | simp [Instr.makeInterface,run_underlying hu]
  ·exact hv.elim
 ·rename_i fn first cap
  split at hv
  ·rename_i hny
   simp only [Ba.EW] at hv;subst hv
   refine⟨.func fn (first.map Nz) (cap.map Nz),rfl,aJy.2 ?_⟩
   simp only [VR]
   refine⟨fn,_,_,rfl,(tq hny).2 rfl,?_,?_⟩
   ·simpa using J8 Fa first.toList
   ·simpa using J8 Fa cap.toList
  ·exact hv.elim
 ·exact lift (Wy (Fa _) hv)
 ·exact lift (uu (Fa _) hv)
 ·exact lift (Wz (Fa _) (Fa _) hv)
 ·exact lift (uw (Fa _) (Fa _) hv)
 ·rename_i t x lo hi mx
  refine lift (uy (Fa x) ?_ ?_ ?_ ?_ ?_ hv)
  ·intro v e;cases lo with
   | none=>cases e
   | some z=>grind
  ·simp_all
  ·intro v e;cases hi with
   | none=>cases e
   | some z=>grind
  ·simp_all
  simp_all
 ·rename_i x i
  have hx:=Fa x
  split at hv <;> try exact hv.elim
  rename_i vs e
  rw [e] at hx
  simp only [VR] at hx
  obtain⟨vs',e',hvs⟩:=hx
  unfold ofO at hv
  split at hv <;> try exact hv.elim
  rename_i u hu
  simp only [Ba.EW] at hv;subst hv
  rw [Hw] at hu
  obtain⟨u',h1,h2⟩:=OY hvs hu
  refine lift ⟨u',?_,h2⟩
  have h1':vs'[i]?=some u':=by rw [<- kJ];exact h1
  simp [e',Instr.extract,h1']
 ·rename_i t parts
  exact lift (uh Fa hv)
 ·exact lift (mf (Fa _) hv)
 ·exact lift (aBF h (Fa _) (Fa _) hv)
 ·rename_i b args argTypes
  obtain⟨args⟩:=args
  obtain⟨argTypes⟩:=argTypes
  simp only at hv
  split at hv
  ·rename_i x t
   obtain⟨v',h1,h2⟩:=aBE (ty:=type) h (Fa x) hv
   refine⟨v',?_,h2⟩
   simp [execOp,resolve,invoke,builtin,h1]
  ·rename_i x t
   have hx:=Fa x
   unfold aGv at hv
   split at hv <;> try exact hv.elim
   rename_i e hu
   split at hv <;> try exact hv.elim
   rename_i ex
   rw [ex] at hx
   simp only [VR,VP] at hx
   simp only [Ba.EW] at hv;subst hv
   refine⟨.int .i64 0,?_,by rfl⟩
   simp [execOp,resolve,invoke,builtin,Builtin.cap_,run_underlying hu,hx,goInt]
  ·rename_i x r
   have hx:=Fa x
   split at hv <;> try exact hv.elim
   rename_i k a e
   rw [e] at hx
   have hx:=aBD hx
   split at hv <;> try exact hv.elim
   rename_i m hm
   simp only [Ba.EW] at hv;subst hv
   have:=ZH (P:=C.P) (w:=w) (k:=k) (J8 Fa r) hm
   refine⟨.int k m,?_,by rfl⟩
   simp [execOp,resolve,invoke,builtin,Builtin.min_,hx,this]
  ·rename_i x r
   have hx:=Fa x
   split at hv <;> try exact hv.elim
   rename_i k a e
   rw [e] at hx
   have hx:=aBD hx
   split at hv <;> try exact hv.elim
   rename_i m hm
   simp only [Ba.EW] at hv;subst hv
   have:=ZI (P:=C.P) (w:=w) (k:=k) (J8 Fa r) hm
   refine⟨.int k m,?_,by rfl⟩
   simp [execOp,resolve,invoke,builtin,Builtin.max_,hx,this]
  ·exact hv.elim
 ·exact hv.elim
end
end Go.Proofs.YtkegmchjobphdaaGreatDoor.Y
namespace Go.Proofs.YtkegmchjobphdaaGreatDoor.Y
open Go
abbrev Sg:=Nat->AV
def bI (σ:Sg) (d:Nat) (v:AV):Sg:=fun t=>match Nat.beq t d with
 | true=>v
 | false=>σ t
theorem Jb (σ:Sg) (d:Nat) (v:AV):bI σ d v d=v:=by simp [bI]
theorem E9 (σ:Sg) {d t:Nat} (v:AV) (h:t ≠ d):bI σ d v t=σ t:=by simp only [bI,Ll h]
def Bh (σ:Sg):List (Nat × AV)->Sg
 | []=>σ
 | (k,v)::r=>bI (Bh σ r) k v
structure AP where
 v:AV
 rcv:Bool
inductive AE where
 | returned (v:AV)
 | panicked (ch:List AP)
inductive AX where
 | normal
 | exit (id:Nat)
 | goto (l:Nat)
 | ret
 | panic (ch:List AP)
inductive AD where
 | fn (g:FuncId) (cap args:List AV)
 | Le (n:Nat)
def PE (Γ:Gm) (p:AP) (p':PanicEntry):Prop:=VR Γ p.v p'.v/\p'.recovered=p.rcv/\p'.goexit=false
def Ny (Γ:Gm):List AP->List PanicEntry->Prop
 | [],l'=>l'=[]
 | p::ps,l'=>∃ q qs,l'=q::qs/\PE Γ p q/\Ny Γ ps qs
def ER (Γ:Gm):AE->Ending->Prop
 | .returned v,e'=>∃ v',e'=.returned v'/\VR Γ v v'
 | .panicked c,e'=>∃ c',e'=.panicked c'/\Ny Γ c c'
theorem Yf {a b:Gm} (h:a.le b):∀ {l:List AP} {l':List PanicEntry},Ny a l l'->Ny b l l'
 | [],_,hl=>hl
 | p::ps,_,hl=>by
  simp only [Ny] at hl ⊢
  obtain⟨q,qs,h1,⟨h2,h3⟩,h4⟩:=hl
  exact⟨q,qs,h1,⟨EF h _ _ h2,h3⟩,Yf h h4⟩
theorem lu {a b:Gm} (h:a.le b) {e:AE} {e':Ending} (he:ER a e e'):ER b e e':=by
 cases e with
 | returned v=>obtain⟨v',h1,h2⟩:=he;exact⟨v',h1,EF h _ _ h2⟩
 | panicked c=>obtain⟨c',h1,h2⟩:=he;exact⟨c',h1,Yf h h2⟩
section
variable (C:Cx)
def Fs (Γ:Gm) (H:Hp) (w:World) (Q:AE->Hp->Prop) (e':Ending) (w':World):Prop:=
 ∃ e H' BU,Q e H'/\ER BU e e'/\Au C H.next Γ H w BU H' w'
def Holds (g:FuncId) (args:List AV) (H:Hp) (Q:AE->Hp->Prop):Prop:=
 ∀ (Γ:Gm) (w:World) (args':List Value),R C Γ H w->CX Γ args args' ->
  ((callFunc g ⟨args'⟩).run C.P w=.ok (.enter g ⟨args'⟩) w/\Calls C.P g ⟨args'⟩ w (Fs C Γ H w Q)) ∨
  (∃ v' w',(callFunc g ⟨args'⟩).run C.P w=.ok (.value v') w'/\Fs C Γ H w Q (.returned v') w')
def A7 (g:FuncId) (args:List AV) (H:Hp) (Q:AE->Hp->Prop):Prop:=
 ∀ (Γ:Gm) (w:World) (args':List Value),R C Γ H w->CX Γ args args' ->
  (callFunc g ⟨args'⟩).run C.P w=.ok (.enter g ⟨args'⟩) w/\Calls C.P g ⟨args'⟩ w (Fs C Γ H w Q)
theorem A7.holds {C:Cx} {g:FuncId} {args:List AV} {H:Hp} {Q:AE->Hp->Prop} (h:A7 C g args H Q):Holds C g args H Q:=
 fun Γ w args' hR hA=>.inl (h Γ w args' hR hA)
def Fz (ro:Option Nat):Fence:={ Fence.wide with round:=ro }
def Li (L:Nat) (args:List AV) (H:Hp) (Q:AE->Hp->Prop):Prop:=
 ∀ (Γ:Gm) (w:World) (args':List Value) (ro:Option Nat),R C Γ H w->CX Γ args args' ->
  ∃ q f tmps Fq bd,Γ.nm L=some q/\(Instr.yield q.blk ⟨args'⟩).run C.P w=.ok (.round q.blk f tmps Fq bd) w/\RoundIn (Fz ro) 0 C.P q.blk f tmps Fq bd w (Fs C Γ H w Q)
theorem Fs.mono {C:Cx} {Γ:Gm} {H:Hp} {w:World} {Q Q':AE->Hp->Prop} (hq:∀ e H',Q e H'->Q' e H') {e:Ending} {w':World} (h:Fs C Γ H w Q e w'):Fs C Γ H w Q' e w':=by
 obtain⟨e0,H',BU,h1,h2⟩:=h
 exact⟨e0,H',BU,hq _ _ h1,h2⟩
theorem Holds.mono {C:Cx} {g:FuncId} {args:List AV} {H:Hp} {Q Q':AE->Hp->Prop} (h:Holds C g args H Q) (hq:∀ e H',Q e H'->Q' e H'):Holds C g args H Q':=by
 intro Γ w args' hR hA
 rcases h Γ w args' hR hA with ⟨h1,h2⟩ | ⟨v',w',h1,h2⟩
 ·exact .inl ⟨h1,h2.mono fun _ _=>Fs.mono hq⟩
 ·exact .inr ⟨v',w',h1,h2.mono hq⟩
def Ci (σ:Sg):Operand->AV
 | .tmp t=>σ t
 | .const v=>match Ir v with
  | some x=>.p x
  | none=>.junk
 | .global g=>match mY C.gt g with
  | some cs=>.p (.fp cs)
  | none=>.junk
 | .func f=>.p (.fn (.func f) [] [])
def pl:AV->Bool
 | .p (.agg _) | .agg _ | .GG _ | .junk=>false
 | _=>true
def aA9 (t:TypeId):Option Nat:=(C.P.info? t).map (·.bytes)
abbrev KH:=AV->Hp->Prop
abbrev Bv:AV:=.GG []
def fP (t:TypeId) (cs:List AV) (H:Hp) (K:KH):Prop:=
 match szOf C.P t with
 | some s=>match Nat.blt 0 s && Nat.beq cs.length s && cs.all pl with
  | true=>K (.ptr H.next 0 0) (H.push ⟨t,false, .bx cs⟩)
  | false=>False
 | none=>False
def ZC (t:TypeId) (H:Hp) (K:KH):Prop:=
 match zeroOf C.P t with
 | some z=>fP C t (BI (.p z)) H K
 | none=>False
def aGr (t:TypeId) (v:AV) (H:Hp) (K:KH):Prop:=
 match known v with
 | true=>fP C t (BI v) H K
 | false=>False
def Cg:List (List PV)->List (List AV)
 | []=>[]
 | cs::r=>cs.map .p::Cg r
def ZG (t:TypeId) (a v:AV) (H:Hp) (K:KH):Prop:=
 match szOf C.P t with
 | some s=>match known v && Nat.beq (BI v).length s && (BI v).all pl with
  | true=>match a with
   | .ptr n i f=>match Aq H.l n with
    | some o=>match o.fr with
     | true=>False
     | false=>match o.c with
      | .bx cs=>match Nat.beq i 0 && Nat.ble (f+s) cs.length with
       | true=>K Bv { H with l:=DJ H.l n { o with c:=.bx (Fv cs f (BI v)) } }
       | false=>False
      | .pu xs=>match Nat.beq f 0 && pl v,v with
       | true, .p x=>i<xs.length/\K Bv { H with l:=DJ H.l n { o with c:=.pu (xs.set i x) } }
       | true,v=>i<xs.length/\K Bv { H with l:=DJ H.l n { o with c:=.mx (Fv (xs.map .p) i [v]) } }
       | _,_=>False
      | .GN xss=>match Wx (BI v) with
       | some ps=>∃ cs,xss[i]?=some cs/\f+s<=cs.length/\K Bv { H with l:=DJ H.l n { o with c:=.GN (xss.set i (Fv cs f ps)) } }
       | none=>∃ cs,xss[i]?=some cs/\f+s<=cs.length/\K Bv { H with l:=DJ H.l n { o with c:=.Gw ((Cg xss).set i (Fv (cs.map .p) f (BI v))) } }
      | .mx xs=>match Nat.beq f 0 && Nat.blt i xs.length && pl v with
       | true=>K Bv { H with l:=DJ H.l n { o with c:=.mx (Fv xs i [v]) } }
       | false=>False
      | .Gw xss=>∃ cs,xss[i]?=some cs/\f+s<=cs.length/\K Bv { H with l:=DJ H.l n { o with c:=.Gw (xss.set i (Fv cs f (BI v))) } }
      | _=>False
    | none=>False
   | .Lx n i f=>match Aq H.l n with
    | some o=>match o.fr with
     | true=>False
     | false=>match o.c with
      | .bx cs=>match Nat.beq i 0 with
       | true=>f+s<=cs.length/\K Bv { H with l:=DJ H.l n { o with c:=.bx (Fv cs f (BI v)) } }
       | false=>False
      | _=>False
    | none=>False
   | _=>False
  | false=>False
 | none=>False
def Qg {α:Type}:Nat->List α->List α
 | 0,_=>[]
 | n+1,z=>z++Qg n z
def chunks {α:Type} (s:Nat):Nat->List α->List (List α)
 | 0,_=>[]
 | n+1,l=>l.take s::chunks s n (l.drop s)
def aGp (s len:Nat) (cs:List AV):Option Cn:=
 match Wx cs with
 | some ps=>match Nat.beq s 1 with
  | true=>some (.pu ps)
  | false=>some (.GN (chunks s len ps))
 | none=>match Nat.beq s 1 with
  | true=>some (.mx cs)
  | false=>some (.Gw (chunks s len cs))
def Pm (t:TypeId) (len:Nat) (parts:List (Nat × Operand)) (ev:Operand->AV) (H:Hp) (K:KH):Prop:=
 match C.P.underlying t with
 | some (.slice e)=>
  match szOf C.P e,zeroOf C.P e with
  | some s,some z=>
   match Nat.ble (len * s) 16777216 && Nat.beq (BI (.p z)).length s && Nat.blt 0 s && parts.all (fun p=>known (ev p.2)) with
   | true=>match bld ev (fun i=>some (i * s,s)) (Qg len (BI (.p z))) parts with
    | some cs=>match cs.all pl,aGp s len cs with
     | true,some c=>K (.sl H.next s 0 len) (H.push ⟨e,false,c⟩)
     | _,_=>False
    | none=>False
   | false=>False
  | _,_=>False
 | _=>False
def uT (t:TypeId) (l c:AV) (H:Hp) (K:KH):Prop:=
 match C.P.underlying t,l,c with
 | some (.slice e), .p (.int _ l), .p (.int _ c)=>
  match szOf C.P e,zeroOf C.P e,aA9 C e with
  | some s,some z,some b=>
   match Nat.beq (BI (.p z)).length s && Nat.blt 0 s && (BI (.p z)).all pl with
   | true=>(0<=l/\l<=c/\c * b<=281474976710656/\c<=281474976710656) /\
    match Nat.beq s 1 && pl (.p z) with
    | true=>K (.sl H.next s 0 l.toNat) (H.push ⟨e,false, .pu (List.replicate l.toNat z)⟩)
    | false=>K (.sl H.next s 0 l.toNat) (H.push ⟨e,false, .GN (List.replicate l.toNat (mW z))⟩)
   | false=>False
  | _,_,_=>False
 | _,_,_=>False
def O1 (c:Cn) (off len:Nat) (K:Cn->Prop):Prop:=
 match c with
 | .pu xs=>off+len<=xs.length/\∃ ys,ys=(xs.drop off).take len/\K (.pu ys)
 | .GN xss=>off+len<=xss.length/\∃ ys,ys=(xss.drop off).take len/\K (.GN ys)
 | .mx xs=>match LD xs off len with
  | some ys=>K (.mx ys)
  | none=>False
 | .Gw xss=>off+len<=xss.length/\∃ ys,ys=(xss.drop off).take len/\K (.Gw ys)
 | _=>False
def marks (l:List (Nat × Ag)):List Nat->List (Nat × Ag)
 | []=>l
 | n::r=>match Aq l n with
  | some o=>marks (DJ l n { o with fr:=true }) r
  | none=>marks l r
def CV (l:List (Nat × Ag)):List Nat->Bool
 | []=>true
 | n::r=>match Aq l n with
  | some o=>BV o.c && CV (DJ l n { o with fr:=true }) r
  | none=>false
def Hp.TA (H:Hp) (fs:List Nat):Hp:={ H with l:=marks H.l fs }
def EJ (f:AV->PV->Prop):List AV->List PV->Prop
 | [],ys=>ys=[]
 | v::vs,ys=>∃ y ys',ys=y::ys'/\f v y/\EJ f vs ys'
def J4 (f:AV->PV->Prop):List (List AV)->List (List PV)->Prop
 | [],ys=>ys=[]
 | v::vs,ys=>∃ y ys',ys=y::ys'/\EJ f v y/\J4 f vs ys'
def aCY (y x:PV):Prop:=match y with
 | .Ad=>x=.Ad∨x=.Dh []∨∃ s,x=.Ai s []
 | y=>x=y
def Ps:List PV->List PV->Prop
 | [],xs=>xs=[]
 | y::ys,xs=>∃ z zs,xs=z::zs/\aCY y z/\Ps ys zs
def GH (L:List (Nat × Ag)):Nat->AV->PV->Prop
 | 0,v,x=>match v with
  | .p y=>x=y
  | _=>False
 | d+1,v,x=>match v with
  | .p .Ad=>x=.Ad∨x=.Dh []∨∃ s,x=.Ai s []
  | .p (.agg (.Ad::r))=>∃ zs,x=.agg zs/\Ps (.Ad::r) zs
  | .p y=>x=y
  | .sl n s off len=>match Aq L n with
   | some o=>match o.fr with
    | false=>False
    | true=>match o.c with
     | .pu xs=>∃ ys,x=.Dh ys/\off+len<=xs.length/\ys=(xs.drop off).take len
     | .GN xss=>∃ ys,x=.Ai s ys/\off+len<=xss.length/\ys=(xss.drop off).take len
     | .mx vs=>∃ us ys,LD vs off len=some us/\x=.Dh ys/\EJ (GH L d) us ys
     | .Gw Ui=>∃ ys,x=.Ai s ys/\off+len<=Ui.length/\J4 (GH L d) ((Ui.drop off).take len) ys
     | _=>False
   | none=>False
  | .ptr n i f=>match Aq L n,Nat.beq i 0 && Nat.beq f 0 with
   | some o,true=>match o.fr with
    | false=>False
    | true=>match o.c with
     | .bx cs=>∃ ys,x=.fp ys/\EJ (GH L d) cs ys
     | _=>False
   | _,_=>False
  | .fn f a b=>mZ f=true/\∃ a' b',x=.fn f a' b'/\EJ (GH L d) a a'/\EJ (GH L d) b b'
  | .iface t v=>∃ y,x=.iface t y/\GH L d v y
  | .agg cs=>∃ ys,x=.agg ys/\EJ (GH L d) cs ys
  | _=>False
def aA8 (s:Nat) (x:AV) (H:Hp) (K:Nat->Cn->Hp->Prop):Prop:=
 match x with
 | .p .Ad=>match Nat.beq s 1 with
  | true=>K 0 (.pu []) H
  | false=>K 0 (.GN []) H
 | .p (.Dh xs)=>match Nat.beq s 1 with
  | true=>K xs.length (.pu xs) H
  | false=>False
 | .p (.Ai s' xss)=>match Nat.beq s s' && !Nat.beq s 1 with
  | true=>K xss.length (.GN xss) H
  | false=>False
 | .sl n s' off len=>match Aq H.l n,Nat.beq s s' with
  | some o,true=>O1 o.c off len fun c=>match c with
   | .mx vs=>(∃ fs ps,CV H.l fs=true/\EJ (GH (marks H.l fs) 5) vs ps/\K len (.pu ps) (H.TA fs))∨K len (.mx vs) H
   | .Gw Ui=>(∃ fs pss,CV H.l fs=true/\J4 (GH (marks H.l fs) 5) Ui pss/\K len (.GN pss) (H.TA fs))∨K len (.Gw Ui) H
   | c=>K len c H
  | _,_=>False
 | .p (.str str)=>match Nat.beq s 1 with
  | true=>K str.length (.pu (str.map ub)) H
  | false=>False
 | _=>False
def uR (a b:Cn) (K:Cn->Prop):Prop:=
 match a,b with
 | .pu xs, .pu ys=>∃ zs,zs=xs++ys/\K (.pu zs)
 | .GN xs, .GN ys=>∃ zs,zs=xs++ys/\K (.GN zs)
 | .mx xs, .mx ys=>K (.mx (xs++ys))
 | .pu [], .mx ys=>K (.mx ys)
 | .mx xs, .pu ys=>K (.mx (xs++ys.map .p))
 | .Gw xs, .Gw ys=>∃ zs,zs=xs++ys/\K (.Gw zs)
 | .Gw xs, .GN ys=>∃ zs,zs=xs++Cg ys/\K (.Gw zs)
 | .GN xs, .Gw ys=>∃ zs,zs=Cg xs++ys/\K (.Gw zs)
 | _,_=>False
def Td (t:TypeId) (sv x:AV) (H:Hp) (K:KH):Prop:=
 match C.P.underlying t with
 | some (.slice e)=>
  match szOf C.P e,zeroOf C.P e,aA9 C e with
  | some s,some z,some b=>
   match Nat.beq (BI (.p z)).length s && Nat.blt 0 s && Nat.blt 0 b && (BI (.p z)).all pl with
   | true=>
    match sv with
    | .p .Ad=>aA8 s x H fun m c H1=>m * b<=140737488355328/\K (.sl H1.next s 0 m) (H1.push ⟨e,false,c⟩)
    | .sl n s' off len=>
     match Nat.beq s s' && Nat.beq off 0 with
     | true=>aA8 s x H fun m c1 H1=>match Aq H1.l n with
      | some o=>match o.fr || !Nat.beq o.t e with
       | true=>False
       | false=>O1 o.c 0 len fun c0=>(len+m) * b<=140737488355328/\uR c0 c1 fun c=>
        K (.sl H1.next s 0 (len+m)) (Hp.push { H1 with l:=HV H1.l n } ⟨e,false,c⟩)
      | none=>False
     | false=>False
    | _=>False
   | false=>False
  | _,_,_=>False
 | _=>False
def aOo (a:Cn) (off len m:Nat) (b:Cn) (K:Cn->Prop):Prop:=
 match a,b with
 | .pu xs, .pu ys=>(off+len<=xs.length/\m<=len)/\∃ zs,zs=Fv xs off ys/\K (.pu zs)
 | _,_=>False
def uN (t:TypeId) (d x:AV) (H:Hp) (K:KH):Prop:=
 match C.P.underlying t with
 | some (.slice e)=>match szOf C.P e with
  | some s=>match d with
   | .sl n s' off len=>match Nat.beq s s' && Nat.blt 0 s with
    | true=>aA8 s x H fun m c H1=>match Aq H1.l n with
     | some o=>match o.fr with
      | true=>False
      | false=>aOo o.c off len m c fun c'=>K (vI .i64 m) { H1 with l:=DJ H1.l n { o with c:=c' } }
     | none=>False
    | false=>False
   | _=>False
  | none=>False
 | _=>False
def uP (ty:TypeId) (x:AV) (H:Hp) (K:KH):Prop:=
 match C.P.underlying ty with
 | some (.pointer _)=>match x with
  | .p .Ad=>K (.p .J6) H
  | .sl n _ off len=>match Aq H.l n with
   | some o=>match BV o.c with
    | true=>(0<len->K (.ptr n off 0) H)/\(len=0->K .LC H)
    | false=>False
   | none=>False
  | _=>False
 | _=>False
def uQ (pt:TypeId) (p n:AV) (H:Hp) (K:KH):Prop:=
 match n with
 | .p (.int k m)=>match k == .i64 with
  | false=>False
  | true=>match p with
   | .p .J6=>m=0/\K (vS []) H
   | .LC=>m=0/\K (vS []) H
   | .ptr a i f=>match Nat.beq i 0 && Nat.beq f 0,Aq H.l a with
    | true,some o=>match C.P.underlying pt with
     | some (.pointer e)=>match o.fr || !Nat.beq o.t e || !Nat.beq (C.P.cellsOf e) 1 with
      | true=>False
      | false=>match o.c with
       | .pu xs=>∃ s:List UInt8,s ≠ []/\m=s.length/\s.length<=9223372036854775807/\s.length<=xs.length/\xs.take s.length=s.map ub/\K (vS s) { H with l:=HV H.l a }
       | _=>False
     | _=>False
    | _,_=>False
   | _=>False
 | _=>False
def Y5 (s e:TypeId) (x:AV) (H:Hp) (K:KH):Prop:=
 match C.P.underlying s,C.P.underlying e,szOf C.P e with
 | some .string,some (.int k),some z=>match k == .u8 && Nat.beq z 1,x with
  | true, .p (.str b)=>K (.sl H.next 1 0 b.length) (H.push ⟨e,false, .pu (b.map ub)⟩)
  | _,_=>False
 | _,_,_=>False
def aA7 (v:AV) (X:List AP->Prop):Prop:=
 match IU v with
 | some (some _)=>X [⟨v,false⟩]
 | _=>False
def Od (t:TypeId):Bool:=
 match C.P.underlying t with
 | some (.slice _)=>true
 | some .string=>true
 | _=>false
def U2:AV->Option (Fn × List AV × List AV)
 | .fn f a b=>some (f,a,b)
 | .p (.fn f a b)=>some (f,a.map .p,b.map .p)
 | _=>none
def onE (K:AV->Hp->Prop) (X:List AP->Hp->Prop):AE->Hp->Prop
 | .returned v,H'=>K v H'
 | .panicked ch,H'=>X ch H'
def aA2 (x:AV) (neg:Bool):Option (Bool × Bool × Prop):=
 match x with
 | .p .Ad=>some (neg,false,True)
 | .p (.Dh xs)=>some (neg,true,xs=[])
 | .p (.Ai _ xss)=>some (neg,true,xss=[])
 | .sl _ _ _ len=>some (neg,true,len=0)
 | _=>none
def dA (op:BinOp) (x y:AV):Option (Bool × Bool × Prop):=
 match y with
 | .p .Ad=>match op with
  | .eql=>aA2 x false
  | .neq=>aA2 x true
  | _=>none
 | _=>none
def aGm (t:TypeId) (neg b:Bool) (c:Prop) (H:Hp) (K:KH):Prop:=
 match C.P.underlying t with
 | some (.slice _)=>(match b with
  | true=>K (vB neg) H
  | false=>True)/\(c->K (vB (!neg)) H)
 | _=>False
def aCR (t:TypeId) (name:String):Option (FuncId × Option Nat):=
 match C.P.info? t with
 | none=>none
 | some i=>match i.methods.find? (·.name == name) with
  | none=>none
  | some m=>match m.func with
   | none=>none
   | some (g,pr)=>match m.path.toList with
    | []=>match C.P.underlying t,pr with
     | some (.pointer _),true=>some (g,none)
     | some (.pointer _),false=>none
     | some _,false=>some (g,none)
     | _,_=>none
    | [s]=>match s.deref && pr,C.P.underlying s.struct with
     | true,some (.struct fs)=>match fs[s.index]? with
      | none=>none
      | some fd=>match szOf C.P fd.type,C.P.underlying fd.type with
       | some (_+1),some (.pointer _)=>none
       | some (_+1),some _=>some (g,some fd.offset)
       | _,_=>none
     | _,_=>none
    | _=>none
def tu:AV->Option Nat->Option AV
 | v,none=>some v
 | .ptr n i f,some k=>some (.ptr n i (f+k))
 | _,_=>none
def aQ5 (t:TypeId) (name:String) (v:AV) (args:List AV) (H:Hp) (Q:AE->Hp->Prop):Prop:=
 ∃ g k u,aCR C t name=some (g,k)/\tu v k=some u/\Holds C g (u::args) H Q
def Ed:List (List UInt8 × PV)->List UInt8->PV->List (List UInt8 × PV)
 | [],a,x=>[(a,x)]
 | (k,y)::r,a,x=>match decide (a=k) with
  | true=>(k,x)::r
  | false=>(k,y)::Ed r a x
def Ry (t:TypeId):Bool:=
 match C.P.underlying t with
 | some (.map kt _)=>match C.P.underlying kt with
  | some .string=>true
  | _=>false
 | _=>false
def aEQ (t:TypeId):Option (List PV):=
 match C.P.underlying t with
 | some (.map kt _)=>match C.P.underlying kt,zeroOf C.P kt with
  | some (.struct _),some (.agg zs)=>some zs
  | _,_=>none
 | _=>none
def aCS (t:TypeId) (zs:List PV):Bool:=
 match C.P.underlying t with
 | some (.map kt _)=>NW C.P 9 kt zs
 | _=>false
open Classical in
noncomputable def PH:List (List PV × PV)->List PV->PV->List (List PV × PV)
 | [],a,x=>[(a,x)]
 | (k,y)::r,a,x=>if a=k then(k,x)::r else(k,y)::PH r a x
def Pn (t:TypeId) (H:Hp) (K:KH):Prop:=
 match Ry C t with
 | true=>K (.mp H.next) (H.push ⟨t,false, .ms []⟩)
 | false=>match aEQ C t with
  | some zs=>K (.mp H.next) (H.push ⟨t,false, .mk zs []⟩)
  | none=>False
def Po (t:TypeId) (m:AV) (cs:List PV) (x:AV) (H:Hp) (K:KH):Prop:=
 match aEQ C t,m with
 | some zk, .mp n=>aCS C t zk=true/\∃ fs y,CV H.l fs=true/\GH (marks H.l fs) 5 x y/\(match Aq (marks H.l fs) n with
  | some o=>match o.c with
   | .mk zs es=>(Aw zk zs && Aw zs cs)=true/\∃ es',es'=PH es cs y/\K Bv { H.TA fs with l:=DJ (H.TA fs).l n { o with c:=.mk zs es' } }
   | _=>False
  | none=>False)
 | _,_=>False
def TS (t:TypeId) (m k x:AV) (H:Hp) (K:KH):Prop:=
 match Ry C t,m,k,x with
 | true, .mp n, .p (.str a), .p y=>match Aq H.l n with
  | some o=>match o.c with
   | .ms es=>∃ es',es'=Ed es a y/\K Bv { H with l:=DJ H.l n { o with c:=.ms es' } }
   | _=>False
  | none=>False
 | _,_,_,_=>False
def Qf (t:TypeId) (m k x:AV) (H:Hp) (K:KH):Prop:=
 match k with
 | .p (.agg cs)=>Po C t m cs x H K
 | k=>TS C t m k x H K
def Y2 (t:TypeId) (x:AV) (H:Hp) (K:KH):Prop:=
 match C.P.underlying t,x with
 | some .string, .p (.str s)=>K (.ptr H.next 0 0) (H.push ⟨t,false, .it s 0⟩)
 | _,_=>False
def uF (x:AV) (str:Bool) (H:Hp) (K:KH):Prop:=
 match str,x with
 | true, .ptr n 0 0=>match Aq H.l n with
  | some o=>match o.c with
   | .it s i=>(s.length<=i->K (.GG [vB false]) H)/\(i<s.length->∃ c d,Utf8.decode ⟨⟨s⟩⟩ i=(c,d)/\K (.GG [vB true,vI .i64 i,vI .i32 c]) { H with l:=DJ H.l n { o with c:=.it s (i+d) } })
   | _=>False
  | none=>False
 | _,_=>False
def Y3 (t:TypeId) (x:AV) (H:Hp) (K:KH):Prop:=
 match C.P.underlying t with
 | some (.slice e)=>match szOf C.P e,zeroOf C.P e with
  | some s,some z=>match Nat.beq s 1 && pl (.p z) && Nat.beq (BI (.p z)).length 1,x with
   | true, .sl n s' off len=>match Nat.beq s' 1,Aq H.l n with
    | true,some o=>match o.fr with
     | true=>False
     | false=>match o.c with
      | .pu xs=>off+len<=xs.length/\∃ ys,ys=Fv xs off (List.replicate len z)/\K Bv { H with l:=DJ H.l n { o with c:=.pu ys } }
      | _=>False
    | _,_=>False
   | _,_=>False
  | _,_=>False
 | _=>False
def Wu (rd:Bool) (o:Oper) (σ:Sg) (ds:List AD) (H:Hp) (K:AV->List AD->Hp->Prop) (X:List AP->Hp->Prop):Prop:=
 match o.op with
 | .alloc t=>ZC C t H fun v H'=>K v ds H'
 | .box t x=>aGr C t (Ci C σ x) H fun v H'=>K v ds H'
 | .store t a x=>ZG C t (Ci C σ a) (Ci C σ x) H fun v H'=>K v ds H'
 | .buildSlice t n parts=>Pm C t n parts.toList (Ci C σ) H fun v H'=>K v ds H'
 | .makeSlice t l c=>uT C t (Ci C σ l) (Ci C σ c) H fun v H'=>K v ds H'
 | .call { callee:=.value f,args, .. }=>
  match U2 (Ci C σ f) with
  | some (.func g,first,cap)=>Holds C g (first++args.toList.map (Ci C σ)++cap) H (onE (fun v H'=>K v ds H') X)
  | some (.yield L,[],[])=>Li C L (args.toList.map (Ci C σ)) H (onE (fun v H'=>K v ds H') X)
  | _=>False
 | .call { callee:=.invoke r name,args, .. }=>
  match IU (Ci C σ r) with
  | some (some (t,v))=>aQ5 C t name v (args.toList.map (Ci C σ)) H (onE (fun v H'=>K v ds H') X)
  | _=>False
 | .call { callee:=.builtin .append,args,argTypes }=>
  match args.toList,argTypes.toList with
  | [s,x],[t,t']=>match Od C t' with
   | true=>Td C t (Ci C σ s) (Ci C σ x) H fun v H'=>K v ds H'
   | false=>False
  | _,_=>False
 | .call { callee:=.builtin .copy,args,argTypes }=>
  match args.toList,argTypes.toList with
  | [s,x],[t,_]=>uN C t (Ci C σ s) (Ci C σ x) H fun v H'=>K v ds H'
  | _,_=>False
 | .call { callee:=.builtin .clear,args,argTypes }=>
  match args.toList,argTypes.toList with
  | [x],[t]=>Y3 C t (Ci C σ x) H fun v H'=>K v ds H'
  | _,_=>False
 | .call { callee:=.builtin .unsafeSliceData,args, .. }=>
  match args.toList with
  | [x]=>uP C o.type (Ci C σ x) H fun v H'=>K v ds H'
  | _=>False
 | .call { callee:=.builtin .unsafeString,args,argTypes }=>
  match args.toList,argTypes.toList with
  | [p,n],[t,_]=>uQ C t (Ci C σ p) (Ci C σ n) H fun v H'=>K v ds H'
  | _,_=>False
 | .convert s d x=>match C.P.underlying d with
  | some (.slice e)=>Y5 C s e (Ci C σ x) H fun v H'=>K v ds H'
  | _=>(pop C.P (.convert s d x) (Ci C σ) (Aq H.l)).bu fun v=>K v ds H
 | .defer { callee:=.value f,args, .. }=>
  match rd,U2 (Ci C σ f) with
  | false,some (.func g,first,cap)=>K Bv (.fn g cap (first++args.toList.map (Ci C σ))::ds) H
  | _,_=>False
 | .panic x=>aA7 (Ci C σ x) fun ch=>X ch H
 | .makeMap t none=>Pn C t H fun v H'=>K v ds H'
 | .insert t m k x=>Qf C t (Ci C σ m) (Ci C σ k) (Ci C σ x) H fun v H'=>K v ds H'
 | .mapUpdate t m k x=>Qf C t (Ci C σ m) (Ci C σ k) (Ci C σ x) H fun v H'=>K v ds H'
 | .range t x=>Y2 C t (Ci C σ x) H fun v H'=>K v ds H'
 | .next x str=>uF (Ci C σ x) str H fun v H'=>K v ds H'
 | .binOp op t x y c=>match dA op (Ci C σ x) (Ci C σ y) with
  | some (neg,b,p)=>aGm C t neg b p H fun v H'=>K v ds H'
  | none=>(pop C.P (.binOp op t x y c) (Ci C σ) (Aq H.l)).bu fun v=>K v ds H
 | op=>(pop C.P op (Ci C σ) (Aq H.l)).bu fun v=>K v ds H
def Du:List Oper->Nat->Option Oper
 | [],_=>none
 | x::_,0=>some x
 | _::l,n+1=>Du l n
def gd (all:List Oper) (o:Oper) (σ:Sg):Option Bool:=
 match o.guard with
 | none=>some true
 | some (j,want)=>match Du all j with
  | some oj=>match oj.dst with
   | some d=>match σ d with
    | .p (.bool b)=>some (b == want)
    | .GG _=>some false
    | _=>none
   | none=>none
  | none=>none
def force (v:AV) (K:AV->Prop):Prop:=
 match v with
 | .p x=>match x with
  | .int k n=>K (.p (.int k n))
  | .bool b=>K (.p (.bool b))
  | .str s=>K (.p (.str s))
  | .agg cs=>K (.p (.agg cs))
  | x=>K (.p x)
 | .ptr n i f=>K (.ptr n i f)
 | .sl n s off len=>K (.sl n s off len)
 | .agg cs=>K (.agg cs)
 | .GG cs=>K (.GG cs)
 | v=>K v
theorem force_eq {v:AV} {K:AV->Prop} (h:force v K):K v:=by
 unfold force at h
 grind
def Rs (N:Nat) (dst:Option Tmp) (σ:Sg) (v:AV) (K:Sg->Prop):Prop:=
 match dst with
 | none=>K σ
 | some d=>match Nat.blt d N with
  | true=>force v fun v=>K (bI σ d v)
  | false=>False
noncomputable def dG (rd:Bool) (N:Nat) (all:List Oper) (l:List Oper):Sg->List AD->Hp->(Sg->List AD->Hp->Prop)->(List AP->Sg->List AD->Hp->Prop)->Prop:=
 List.rec (motive:=fun _=>Sg->List AD->Hp->(Sg->List AD->Hp->Prop)->(List AP->Sg->List AD->Hp->Prop)->Prop)
  (fun σ ds H K _=>K σ ds H)
  (fun o _ ih σ ds H K X=>match gd all o σ with
   | some true=>Wu C rd o σ ds H (fun v CS H'=>Rs N o.dst σ v fun σ'=>ih σ' CS H' K X) (fun ch H'=>X ch σ ds H')
   | some false=>Rs N o.dst σ Bv fun σ'=>ih σ' ds H K X
   | none=>False) l
theorem fK (rd:Bool) (N:Nat) (all:List Oper) (o:Oper) (r:List Oper) (σ:Sg) (ds:List AD) (H:Hp) (K:Sg->List AD->Hp->Prop) (X:List AP->Sg->List AD->Hp->Prop):dG C rd N all (o::r) σ ds H K X=(match gd all o σ with
  | some true=>Wu C rd o σ ds H (fun v CS H'=>Rs N o.dst σ v fun σ'=>dG C rd N all r σ' CS H' K X) (fun ch H'=>X ch σ ds H')
  | some false=>Rs N o.dst σ Bv fun σ'=>dG C rd N all r σ' ds H K X
  | none=>False):=rfl
abbrev KQ:=AX->Sg->List AD->Hp->Prop
def DR (hd:Option (List Deferred)) (Γ:Gm) (d:AD) (d':Deferred):Prop:=
 match d with
 | .fn f cap args=>∃ FZ args',d'={ target:=.fn (.func f) FZ,args:=args' }/\CX Γ cap FZ.toList/\CX Γ args args'.toList
 | .Le n=>hd.isSome=true/\∃ q,Γ.nm n=some q/\d'={ target:=.collected q.blk,args:=#[] }
def Uh (hd:Option (List Deferred)) (Γ:Gm):List AD->List Deferred->Prop
 | [],l'=>l'=hd.getD []
 | d::ds,l'=>∃ u us,l'=u::us/\DR hd Γ d u/\Uh hd Γ ds us
theorem aJw {hd:Option (List Deferred)} {a b:Gm} (h:a.le b) {d:AD} {d':Deferred} (hr:DR hd a d d'):DR hd b d d':=by
 cases d with
 | fn f cap args=>obtain⟨FZ,args',h1,h2,h3⟩:=hr;exact⟨FZ,args',h1,Cw h _ _ h2,Cw h _ _ h3⟩
 | Le n=>obtain⟨h0,q,h1,h2⟩:=hr;exact⟨h0,q,h.nm _ _ h1,h2⟩
theorem Kg {hd:Option (List Deferred)} {a b:Gm} (h:a.le b):∀ {l:List AD} {l':List Deferred},Uh hd a l l'->Uh hd b l l'
 | [],_,hl=>hl
 | d::ds,_,hl=>by
  simp only [Uh] at hl ⊢
  obtain⟨u,us,h1,h2,h3⟩:=hl
  exact⟨u,us,h1,aJw h h2,Kg h h3⟩
structure SR (hd:Option (List Deferred)) (Γ:Gm) (σ:Sg) (ds:List AD) (N:Nat) (a:Act):Prop where
 size:a.tmps.size=N
 tm:∀ t,VR Γ (σ t) (a.tmps.getD t undef)
 df:Uh hd Γ ds a.defers
def aED (b:Nat):Deferred:={ target:=.collected b,args:=#[] }
structure HX (r:Bool) (B:Nat->Prop) (hd:Option (List Deferred)) (Γ:Gm) (H:Hp) (w:World):Prop where
 si:hd.isSome=r
 hid:∃ bs:List Nat,hd.getD []=bs.map aED/\bs.Nodup/\∀ b∈bs,B b/\b<w.heap.size/\¬ RJ Γ H b/\w.heap[b]?=some (.deferred (some []))
 own:∀ k,RJ Γ H k->B k
 size:∀ k,w.heap.size<=k->B k
theorem HX.tr {r:Bool} {B:Nat->Prop} {hd:Option (List Deferred)} {Γ BU:Gm} {H H':Hp} {w w':World} (h:HX r B hd Γ H w) (t:Tr Γ H w BU H' w'):HX r B hd BU H' w':=by
 obtain⟨h1,⟨bs,e,nd,hb⟩,h3,h4⟩:=h
 refine⟨h1,⟨bs,e,nd,fun b hm=>?_⟩,fun k hk=>(t.Wn k hk).elim (h4 k) (h3 k),fun k hk=>h4 k (kG t.size hk)⟩
 obtain⟨k1,k2,k3,k4⟩:=hb b hm
 refine⟨k1,xQ k2 t.size,fun ho=>(t.Wn b ho).elim (fun h=>absurd k2 ME) k3,by rw [t.kept b k2 k3];exact k4⟩
def SX (r:Bool) (B:Nat->Prop) (Γ:Gm) (H:Hp) (w:World) (σ:Sg) (ds:List AD) (N:Nat) (a:Act):Prop:=∃ hd,SR hd Γ σ ds N a/\HX r B hd Γ H w
def O9 (n0 N:Nat) (σ:Sg) (ds:List AD) (H:Hp) (σ':Sg) (CS:List AD) (H':Hp):Prop:=
 ∀ (r:Bool) (B:Nat->Prop) (Γ:Gm) (w:World) (a:Act),n0<=H.next->R C Γ H w->SX r B Γ H w σ ds N a->∃ BU,SX r B BU H' w σ' CS N a/\Au C n0 Γ H w BU H' w
inductive OT where
 | fin
 | pure (i:Nat) (t:OT)
 | A8 (i:Nat) (hs:List Nat) (t alt:OT)
 | nil
structure En where
 i:Nat
 o:Oper
 v:AV
 sy:Bool
def D6:Nat->List Nat->Bool
 | _,[]=>false
 | n,m::r=>match Nat.beq n m with
  | true=>true
  | false=>D6 n r
def YQ (o:Oper):List Nat:=(o.after.toList.filter (Region.binds .any)).map (·.on)
def tmpsOf:List Operand->List Nat
 | []=>[]
 | .tmp t::r=>t::tmpsOf r
 | _::r=>tmpsOf r
def aOr (all:List Oper) (o:Oper):List Nat:=
 match o.guard with
 | none=>[]
 | some (j,_)=>match Du all j with
  | some oj=>match oj.dst with
   | some d=>[d]
   | none=>[]
  | none=>[]
def looks (all:List Oper) (o:Oper):List Nat:=aOr all o++tmpsOf o.op.operands.toList
def Oc (l:List Nat) (σ:Sg):Sg:=fun t=>match D6 t l with
 | true=>σ t
 | false=>.junk
def ap (σ0:Sg):List En->Sg
 | []=>σ0
 | e::L=>match e.o.dst with
  | none=>ap σ0 L
  | some d=>bI (ap σ0 L) d e.v
def dstsOf:List Oper->List Nat
 | []=>[]
 | o::r=>match o.dst with
  | none=>dstsOf r
  | some d=>d::dstsOf r
def unw (all:List Oper) (σ:Sg):Sg:=fun t=>match D6 t (dstsOf all) with
 | true=>.junk
 | false=>σ t
def Fp:Op->Bool
 | .load ..=>true
 | .call _=>true
 | .convert ..=>true
 | .lookup ..=>true
 | _=>false
def lkO (op:Op) (H:Hp):Nat->Option Ag:=match Fp op with
 | true=>Aq H.l
 | false=>fun _=>none
def aGh:AV->AV
 | .p v=>.p v
 | _=>.junk
def aGi (t:TypeId) (len:Nat) (parts:List (Nat × Operand)) (ev:Operand->AV):Ba:=
 match C.P.underlying t with
 | some (.slice e)=>
  match szOf C.P e,zeroOf C.P e with
  | some s,some z=>
   match Nat.ble (len * s) 16777216 && Nat.beq (BI (.p z)).length s && Nat.blt 0 s && parts.all (fun p=>known (aGh (ev p.2))) with
   | true=>match bld (fun x=>aGh (ev x)) (fun i=>some (i * s,s)) (Qg len (BI (.p z))) parts with
    | some cs=>match cs.all pl,aGp s len cs with
     | true,some (.pu xs)=>.val (.p (.Dh xs))
     | true,some (.GN xss)=>.val (.p (.Ai s xss))
     | _,_=>.bad
    | none=>.bad
   | false=>.bad
  | _,_=>.bad
 | _=>.bad
def tX (op:Op) (ev:Operand->AV) (lk:Nat->Option Ag):Ba:=match op with
 | .buildSlice t n parts=>aGi C t n parts.toList ev
 | op=>pop C.P op ev lk
def IX (all:List Oper) (σ0:Sg) (H:Hp) (e:En) (L:List En):Prop:=
 match gd all e.o (Oc (looks all e.o) (ap σ0 L)) with
 | some true=>(tX C e.o.op (Ci C (Oc (looks all e.o) (ap σ0 L))) (lkO e.o.op H)).EW e.v
 | some false=>e.v=Bv
 | none=>False
def Wt (all:List Oper) (σ0:Sg) (hs:List Nat) (H:Hp):List En->Prop
 | []=>True
 | e::L=>match D6 e.i hs with
  | true=>IX C all σ0 H e L/\Wt all σ0 hs H L
  | false=>Wt all σ0 hs H L
noncomputable def vD (rd:Bool) (all:List Oper) (σ0:Sg) (K:Sg->List AD->Hp->Prop) (X:List AP->Sg->List AD->Hp->Prop) (ot:OT):List En->List AD->Hp->Prop:=
 OT.rec (motive:=fun _=>List En->List AD->Hp->Prop)
  (fun L ds H=>K (ap σ0 L) ds H)
  (fun i _ ih L ds H=>
   match Du all i with
   | none=>False
   | some o=>match gd all o (Oc (looks all o) (ap σ0 L)) with
    | some true=>(tX C o.op (Ci C (Oc (looks all o) (ap σ0 L))) (lkO o.op H)).bu fun v=>ih (⟨i,o,v,false⟩::L) ds H
    | some false=>ih (⟨i,o,Bv,false⟩::L) ds H
    | none=>False)
  (fun i hs _ alt ih ihA L ds H=>
   match alt with
   | .nil=>(match Du all i with
    | none=>False
    | some o=>match gd all o (Oc (looks all o) (ap σ0 L)) with
     | some true=>Wu C rd o (Oc (looks all o) (ap σ0 L)) ds H
       (fun v CS H'=>match hs with
        | []=>ih (⟨i,o,v,true⟩::L) CS H'
        | hs=>Wt C all σ0 hs H' L/\ih (⟨i,o,v,true⟩::L) CS H')
       (fun ch H'=>X ch (unw all σ0) ds H')
     | some false=>ih (⟨i,o,Bv,true⟩::L) ds H
     | none=>False)
   | _=>(match Du all i with
    | none=>False
    | some o=>match gd all o (Oc (looks all o) (ap σ0 L)) with
     | some true=>Wu C rd o (Oc (looks all o) (ap σ0 L)) ds H
       (fun v CS H'=>match hs with
        | []=>ih (⟨i,o,v,true⟩::L) CS H'
        | hs=>Wt C all σ0 hs H' L/\ih (⟨i,o,v,true⟩::L) CS H')
       (fun ch H'=>X ch (unw all σ0) ds H')
     | some false=>ih (⟨i,o,Bv,true⟩::L) ds H
     | none=>False)/\ihA L ds H)
  (fun _ _ _=>True) ot
theorem aMx (rd:Bool) (all:List Oper) (σ0:Sg) (K:Sg->List AD->Hp->Prop) (X:List AP->Sg->List AD->Hp->Prop) (L:List En) (ds:List AD) (H:Hp):vD C rd all σ0 K X .fin L ds H=K (ap σ0 L) ds H:=rfl
theorem aCQ (rd:Bool) (all:List Oper) (σ0:Sg) (K:Sg->List AD->Hp->Prop) (X:List AP->Sg->List AD->Hp->Prop) (i:Nat) (t:OT) (L:List En) (ds:List AD) (H:Hp):vD C rd all σ0 K X (.pure i t) L ds H=(match Du all i with
  | none=>False
  | some o=>match gd all o (Oc (looks all o) (ap σ0 L)) with
   | some true=>(tX C o.op (Ci C (Oc (looks all o) (ap σ0 L))) (lkO o.op H)).bu fun v=>vD C rd all σ0 K X t (⟨i,o,v,false⟩::L) ds H
   | some false=>vD C rd all σ0 K X t (⟨i,o,Bv,false⟩::L) ds H
   | none=>False):=rfl
theorem aGg (rd:Bool) (all:List Oper) (σ0:Sg) (K:Sg->List AD->Hp->Prop) (X:List AP->Sg->List AD->Hp->Prop) (i:Nat) (hs:List Nat) (t alt:OT) (L:List En) (ds:List AD) (H:Hp):vD C rd all σ0 K X (.A8 i hs t alt) L ds H=(
  let it:Prop:=match Du all i with
   | none=>False
   | some o=>match gd all o (Oc (looks all o) (ap σ0 L)) with
    | some true=>Wu C rd o (Oc (looks all o) (ap σ0 L)) ds H
      (fun v CS H'=>match hs with
       | []=>vD C rd all σ0 K X t (⟨i,o,v,true⟩::L) CS H'
       | hs=>Wt C all σ0 hs H' L/\vD C rd all σ0 K X t (⟨i,o,v,true⟩::L) CS H')
      (fun ch H'=>X ch (unw all σ0) ds H')
    | some false=>vD C rd all σ0 K X t (⟨i,o,Bv,true⟩::L) ds H
    | none=>False
  match alt with
  | .nil=>it
  | _=>it/\vD C rd all σ0 K X alt L ds H):=by cases alt <;> rfl
def Lg:List Nat->Nat->Nat
 | [],_=>0
 | x::_,0=>x
 | _::l,n+1=>Lg l n
def Yx (acc:List Nat):List Nat->Nat
 | []=>0
 | d::r=>2 ^ d ||| Lg acc d ||| Yx acc r
def Cr:List Oper->List Nat->List Nat
 | [],acc=>acc
 | o::r,acc=>Cr r (acc++[Yx acc (YQ o)])
def Yy (f:Nat->Oper->Bool):Nat->List Oper->Bool
 | _,[]=>true
 | n,o::r=>f n o && Yy f (n+1) r
def FN (N:Nat) (all:List Oper) (ms:List Nat):Bool:=
 Yy (fun j oj=>match oj.dst with
  | none=>true
  | some d=>Nat.blt d N && Yy (fun i oi=>Nat.beq i j || !(D6 d (looks all oi) || oi.dst == some d) || (Lg ms i).testBit j || (Lg ms j).testBit i) 0 all) 0 all
def sQ (l Nw:List Nat):Bool:=l.all fun d=>D6 d Nw
def JB (all:List Oper) (ms:List Nat):OT->List Nat->List Nat->List Nat->Bool
 | .fin,Nw,_,_=>Yy (fun i _=>D6 i Nw) 0 all
 | .pure i t,Nw,pu,_=>!D6 i Nw && (match Du all i with
  | some o=>sQ (YQ o) Nw && JB all ms t (i::Nw) (match Fp o.op with
   | true=>i::pu
   | false=>pu) []
  | none=>false)
 | .A8 i hs t alt,Nw,pu,es=>!D6 i Nw && (match Du all i with
  | some o=>sQ (YQ o) Nw && pu.all (fun k=>D6 k hs || (Lg ms i).testBit k) && JB all ms t (i::Nw) pu [] && (match alt with
   | .A8 ..=>JB all ms alt Nw pu (i::es)
   | .nil=>Yy (fun k ok=>D6 k Nw || D6 k (i::es) || (YQ ok).any (fun d=>!D6 d Nw)) 0 all
   | _=>false)
  | none=>false)
 | .nil,_,_,_=>false
def FI (rd : Bool) (n0 N : Nat) (all : List Oper) (σ : Sg) (ds : List AD) (H : Hp) (K : Sg -> List AD -> Hp -> Prop) (X : List AP -> Sg -> List AD -> Hp -> Prop) : Prop :=
  ∃ ot, (C.P.follows .mixedOrders && FN N all (Cr all []) && JB all (Cr all []) ot [] [] []) = true /\
    ((vD C rd all σ K X ot [] ds H) ∨
     ∃ (α : Type) (sl : α -> List (Nat × AV)) (hp : α -> Hp) (pr : α -> Prop),
      vD C rd all σ (fun σ' CS H' => ∃ x, pr x /\ O9 C n0 N σ' CS H' (Bh (fun _ => .junk) (sl x)) ds (hp x)) X ot [] ds H /\
      ∀ x, pr x -> K (Bh (fun _ => .junk) (sl x)) ds (hp x))
def lY (n0 N:Nat) (body:Sg->List AD->Hp->KQ->Prop) (σ:Sg) (ds:List AD) (H:Hp) (Q:KQ):Prop:=
 ∃ (α:Type) (sl:α->List (Nat × AV)) (hp:α->Hp) (pr:α->Prop) (μ:α->Nat),
  (∃ x,pr x/\O9 C n0 N σ ds H (Bh (fun _=>.junk) (sl x)) ds (hp x)) /\
  ∀ x,pr x->body (Bh (fun _=>.junk) (sl x)) ds (hp x) fun e σ' CS H'=>match e with
   | .normal=>∃ x',pr x'/\O9 C n0 N σ' CS H' (Bh (fun _=>.junk) (sl x')) ds (hp x')/\μ x'<μ x
   | e=>Q e σ' CS H'
def J7 (lim:Nat) (σ:Sg) (N:Nat) (params:Array Tmp) (Fq bd:Code) (dn:Nat):Ag:=⟨0,false, .lp .ready none lim N σ params.toList Fq bd dn⟩
def YR (E5:Option Code) (Q:KQ) (σ:Sg) (ds:List AD) (H:Hp):Prop:=
 match E5 with
 | none=>Q .normal σ ds H
 | some .ret=>Q .ret σ ds H
 | some (.exit i)=>Q (.exit i) σ ds H
 | some (.goto i)=>Q (.goto i) σ ds H
 | _=>False
def OZ (_N:Nat) (g:FuncId) (first cap:List AV) (L:Nat) (σ:Sg) (ds:List AD) (H:Hp) (Q:KQ):Prop:=
 A7 C g (first++[.fn (.yield L) [] []]++cap) H fun e H'=>match e with
  | .returned _=>match Aq H'.l L with
   | some o=>match o.c with
    | .lp st E5 lim n a b c d dn=>match st with
     | .busy=>False
     | _=>YR E5 Q σ ds { H' with l:=DJ H'.l L { o with c:=.lp .exhausted E5 lim n a b c d dn } }
    | _=>False
   | none=>False
  | .panicked ch=>Q (.panic ch) σ ds H'
noncomputable def vc (rn:Option Nat) (n0 N:Nat) (c:Code):Sg->List AD->Hp->KQ->Prop:=
 Code.rec (motive:=fun _=>Sg->List AD->Hp->KQ->Prop)
  (fun σ ds H Q=>Q .normal σ ds H)
  (fun _ ops draw σ ds H Q=>match draw with
   | false=>dG C rn.isSome N ops.toList ops.toList σ ds H (Q .normal) (fun ch=>Q (.panic ch))
   | true=>FI C rn.isSome n0 N ops.toList σ ds H (Q .normal) (fun ch=>Q (.panic ch)))
  (fun _ _ PS QU σ ds H Q=>PS σ ds H fun e σ' CS H'=>match e with
   | .normal=>QU σ' CS H' Q
   | e=>Q e σ' CS H')
  (fun c _ _ PS QU σ ds H Q=>match Ci C σ c with
   | .p (.bool true)=>PS σ ds H Q
   | .p (.bool false)=>QU σ ds H Q
   | _=>False)
  (fun id _ ih σ ds H Q=>ih σ ds H fun e σ' CS H'=>match e with
   | .exit j=>match Nat.beq j id with
    | true=>Q .normal σ' CS H'
    | false=>Q (.exit j) σ' CS H'
   | e=>Q e σ' CS H')
  (fun _ ih σ ds H Q=>lY C n0 N (fun σ' CS H' Q'=>ih σ' CS H' Q') σ ds H Q)
  (fun f params Fq bd _ _ σ ds H Q=>match U2 (Ci C σ f) with
   | some (.func g,first,cap)=>match rn with
    | none=>OZ C N g first cap (H.next+1) σ (.Le H.next::ds) ((H.push ⟨0,false, .df⟩).push (J7 H.next σ N params Fq bd H.next)) Q
    | some l=>match Aq H.l l with
     | some o=>match o.c with
      | .lp _ _ _ _ _ _ _ _ dn=>OZ C N g first cap H.next σ ds (H.push (J7 H.next σ N params Fq bd dn)) Q
      | _=>False
     | none=>False
   | _=>False)
  (fun id σ ds H Q=>Q (.exit id) σ ds H)
  (fun _ ih σ ds H Q=>ih σ ds H fun e σ' CS H'=>match e with
   | .goto _=>False
   | e=>Q e σ' CS H')
  (fun _ σ ds H Q=>Q .normal σ ds H)
  (fun l σ ds H Q=>Q (.goto l) σ ds H)
  (fun σ ds H Q=>Q .ret σ ds H)
  (fun _ _ _ _ _=>False) c
section
variable (rn:Option Nat) (n0 N:Nat) (σ:Sg) (ds:List AD) (H:Hp) (Q:KQ)
theorem U5 (i:Nat) (ops:Array Oper) (draw:Bool):vc C rn n0 N (.region i ops draw) σ ds H Q=(match draw with
  | false=>dG C rn.isSome N ops.toList ops.toList σ ds H (Q .normal) (fun ch=>Q (.panic ch))
  | true=>FI C rn.isSome n0 N ops.toList σ ds H (Q .normal) (fun ch=>Q (.panic ch))):=rfl
theorem aGZ (a b:Code):vc C rn n0 N (.seq a b) σ ds H Q=(vc C rn n0 N a σ ds H fun e σ' CS H'=>match e with
  | .normal=>vc C rn n0 N b σ' CS H' Q
  | e=>Q e σ' CS H'):=rfl
theorem aCM (c:Operand) (a b:Code):vc C rn n0 N (.cond c a b) σ ds H Q=(match Ci C σ c with
  | .p (.bool true)=>vc C rn n0 N a σ ds H Q
  | .p (.bool false)=>vc C rn n0 N b σ ds H Q
  | _=>False):=rfl
theorem tH (id:Nat) (b:Code):vc C rn n0 N (.block id b) σ ds H Q=(vc C rn n0 N b σ ds H fun e σ' CS H'=>match e with
  | .exit j=>match Nat.beq j id with
   | true=>Q .normal σ' CS H'
   | false=>Q (.exit j) σ' CS H'
  | e=>Q e σ' CS H'):=rfl
theorem aCN (b:Code):vc C rn n0 N (.loop b) σ ds H Q=lY C n0 N (fun σ' CS H' Q'=>vc C rn n0 N b σ' CS H' Q') σ ds H Q:=rfl
theorem TP (f:Operand) (params:Array Tmp) (Fq bd:Code):vc C rn n0 N (.rangeFunc f params Fq bd) σ ds H Q=(match U2 (Ci C σ f) with
  | some (.func g,first,cap)=>match rn with
   | none=>OZ C N g first cap (H.next+1) σ (.Le H.next::ds) ((H.push ⟨0,false, .df⟩).push (J7 H.next σ N params Fq bd H.next)) Q
   | some l=>match Aq H.l l with
    | some o=>match o.c with
     | .lp _ _ _ _ _ _ _ _ dn=>OZ C N g first cap H.next σ ds (H.push (J7 H.next σ N params Fq bd dn)) Q
     | _=>False
    | none=>False
  | _=>False):=rfl
theorem tJ (b:Code):vc C rn n0 N (.scope b) σ ds H Q=(vc C rn n0 N b σ ds H fun e σ' CS H'=>match e with
  | .goto _=>False
  | e=>Q e σ' CS H'):=rfl
end
end
end Go.Proofs.YtkegmchjobphdaaGreatDoor.Y
namespace Go.Proofs.YtkegmchjobphdaaGreatDoor.Y
open Go
section
variable {C:Cx} {Γ:Gm} {H:Hp} {w:World}
theorem uH {v:AV} {v':Value} (h:VR Γ v v') (hp:pl v=true):CZ v'=true:=by
 cases v with
 | p v=>
  cases v <;> simp only [VR,VP] at h
  case Dh=>rcases h with ⟨_,_,_,rfl⟩ | ⟨_,_,_,_,_,rfl,_⟩ <;> rfl
  case Ai=>rcases h with ⟨_,_,_,rfl⟩ | ⟨_,_,_,_,_,rfl,_⟩ <;> rfl
  all_goals first
   | (subst h;rfl)
   | (obtain⟨_,_,_,_,rfl,_⟩:=h;rfl)
   | (obtain⟨_,_,_,rfl,_⟩:=h;rfl)
   | (obtain⟨_,rfl,_⟩:=h;first | rfl | (simp [pl] at hp))
 | ptr=>simp only [VR,uY] at h;obtain⟨_,_,_,rfl⟩:=h;rfl
 | Lx=>simp only [VR,uY] at h;obtain⟨_,_,_,rfl⟩:=h;rfl
 | sl=>simp only [VR,SlR] at h;obtain⟨_,_,_,⟨_,_,_,rfl⟩ | ⟨_,_,_,rfl,_⟩⟩:=h <;> rfl
 | mp=>simp only [VR] at h;obtain⟨_,_,rfl⟩:=h;rfl
 | fn=>simp only [VR] at h;obtain⟨_,_,_,rfl,_⟩:=h;rfl
 | iface=>simp only [VR] at h;obtain⟨_,rfl,_⟩:=h;rfl
 | agg=>simp [pl] at hp
 | GG=>simp [pl] at hp
 | LC=>simp only [VR] at h;obtain⟨_,rfl⟩:=h;rfl
 | junk=>simp [pl] at hp
theorem mV {vs:List AV} {vs':List Value} (h:CX Γ vs vs') (hp:vs.all pl=true):∀ v∈vs',CZ v=true:=by
 induction vs generalizing vs' with
 | nil=>grind [CX]
 | cons x xs ih=>
  simp only [CX] at h
  obtain⟨u,us,rfl,h1,h2⟩:=h
  simp only [jB,qC] at hp
  intro v hv
  rcases qw.1 hv with rfl | hv
  ·exact uH h1 hp.1
  grind
def NV (C:Cx) (Γ:Gm) (H:Hp) (w:World) (K:KH) (v':Value) (w':World):Prop:=
 ∃ v H' BU,K v H'/\VR BU v v'/\Au C H.next Γ H w BU H' w'
theorem aBA {P:Program} (t:TypeId) (v:Value):(newVar t v).run P w=.ok ⟨w.heap.size,0,none⟩ (w.alloc (.cells v.cells t)):=by
 rfl
theorem ZA {P:Program} (t:TypeId) (cs:Array Value):(newRow t cs).run P w=.ok ⟨w.heap.size,0,none⟩ (w.alloc (.cells cs t)):=by
 rfl
theorem Oe (h:R C Γ H w) {t:TypeId} {s tc:Nat} {c:Cn} {us rest:List Value} (hc:BV c=true) (hs:szOf C.P t=some s) (h0:0<s) (hv:CX Γ (flat c) us) (II:∀ u∈us,CZ u=true)
  (hl:(us++rest).length=tc * s) (hz:DN s tc c) :
  Au C H.next Γ H w (Γ.put H.next ⟨w.heap.size,s,tc,false⟩) (H.push ⟨t,false,c⟩) (w.alloc (.cells ⟨us++rest⟩ t)):=by
 refine h.push rfl rfl rfl ((BA hc).2 (.inr ⟨rfl,us,rest,(0,0),heap_alloc_new w _, .inl (qN _),hs,h0,hl,Cw (Gm.Oa (h.fresh _ (qN _))) _ _ hv,II,hz,fun e=>MJ9⟩))
theorem aBB (q:Pl) (n:Nat) (hn:q.nl=false):VR (Γ.put n q) (.ptr n 0 0) (.pointer (some ⟨q.blk,0,none⟩)):=by
 simp only [VR]
 exact⟨q,Gm.Bq _ _ _,hn,by simp⟩
theorem NY (q:Pl) (n len:Nat) (hn:q.nl=false) (hl:len<=q.tc):VR (Γ.put n q) (.sl n q.s 0 len) (.slice (some ⟨q.blk,0,none⟩) len q.tc):=by
 simp only [VR]
 exact⟨q,Gm.Bq _ _ _,rfl, .inr ⟨hn,by omega,0,rfl, .inl MBV⟩⟩
theorem ZB (h:R C Γ H w) {t:TypeId} {cs:List AV} {Dt:Array Value} (hv:CX Γ cs Dt.toList) {K:KH} (hk:fP C t cs H K):NV C Γ H w K (.pointer (some ⟨w.heap.size,0,none⟩)) (w.alloc (.cells Dt t)):=by
 unfold fP at hk
 split at hk <;> try exact hk.elim
 rename_i s hs
 split at hk <;> try exact hk.elim
 rename_i hc
 simp only [qC] at hc
 obtain⟨⟨h1,h2⟩,h3⟩:=hc
 have h1:0<s:=MJ5
 have h2:=qI h2
 have hlen:=BH hv
 have hL:=Oe (rest:=[]) (tc:=1) (c:=.bx cs) h rfl hs h1 hv (mV hv h3) MAe ⟨h2,rfl⟩
 refine⟨_,_,Γ.put H.next ⟨w.heap.size,s,1,false⟩,hk,aBB ⟨w.heap.size,s,1,false⟩ _ rfl,?_⟩
 simpa using hL
theorem uJ (h:R C Γ H w) {t:TypeId} {K:KH} (hv:ZC C t H K):∃ v' w',(Instr.alloc t true (.tuple #[])).run C.P w=.ok v' w'/\NV C Γ H w K v' w':=by
 unfold ZC at hv
 split at hv <;> try exact hv.elim
 rename_i z hz
 obtain⟨z',hzr,TM⟩:=Og (Γ:=Γ) hz w
 exact⟨_,_,by simp [Instr.alloc,hzr,aBA],ZB h TM hv⟩
theorem aES (h:R C Γ H w) {t:TypeId} {x:AV} {x':Value} (hx:VR Γ x x') {K:KH} (hv:aGr C t x H K):∃ v' w',(Instr.box t x').run C.P w=.ok v' w'/\NV C Γ H w K v' w':=by
 unfold aGr at hv
 split at hv <;> try exact hv.elim
 rename_i hk
 exact⟨_,w.alloc (.cells x'.cells t),by rfl,ZB h (by grind [H8,Na]) hv⟩
theorem cellsOf (h:R C Γ H w) {n:Nat} {o:Ag} {q:Pl} (hn:Aq H.l n=some o) (hc:BV o.c=true) (hq:Γ.nm n=some q) (BF:q.nl=false):ZE C.P Γ w q o:=by
 obtain⟨q',Gp,ho⟩:=h.Dz n o hn
 grind [BA]
theorem ZF {α:Type} {a b vs:List α} {k:Nat} (h:k+vs.length<=a.length):Fv (a++b) k vs=Fv a k vs++b:=by
 grind [mR]
theorem VC (h:R C Γ H w) {n:Nat} {o:Ag} {q:Pl} {k:Nat} {vs:List AV} {vs':List Value} {c':Cn} (hn:Aq H.l n=some o) (Ea:o.fr=false) (hc:BV o.c=true) (hq:Γ.nm n=some q) (BF:q.nl=false)
  (hk:k+vs.length<=(flat o.c).length) (hv:CX Γ vs vs') (hp:∀ v∈vs',CZ v=true) (Wi:BV c'=true) (hf:flat c'=Fv (flat o.c) k vs) (hz:DN q.s q.tc c') :
  ∃ w',(storeCells ⟨q.blk,k,none⟩ vs').run C.P w=.ok () w'/\Au C H.next Γ H w Γ { H with l:=DJ H.l n { o with c:=c' } } w':=by
 obtain⟨us,rest,z,h1,h2,h3,SK,h4,h5,h6,h7,h8⟩:=cellsOf h hn hc hq BF
 have hlv:=BH hv
 have hlu:=BH h5
 have Jc:=Rz (P:=C.P) q.blk o.t z vs' k 0 w ⟨us++rest⟩ h1 h2 MEL hp
 rw [vz] at Jc
 have bK:Fv (us++rest) k vs'=Fv us k vs'++rest:=ZF ME
 simp only [bK] at Jc
 refine⟨_,Jc,h.bY hn Ea hq BF (o':={ o with c:=c' }) Ea ((BA (o:={ o with c:=c' }) Wi).2 (.inr ⟨BF,Fv us k vs',rest,z,D5 h1,?_,h3,SK,?_,?_,?_,hz,fun e=>?_⟩))⟩
 ·grind [Ep]
 ·grind [Ep]
 ·grind [aCZ]
 ·intro u hu
  obtain⟨i,hi⟩:=List.getElem?_of_mem hu
  grind [GI]
 simp_all
theorem LW {α:Type} {s:Nat}:∀ {xss:List (List α)},(∀ cs∈xss,cs.length=s)->∀ {i f:Nat} {cs ps:List α},xss[i]?=some cs->f+ps.length<=cs.length->(xss.set i (Fv cs f ps)).flatten=Fv xss.flatten (i * s+f) ps
 | [],_,i,f,cs,ps,h,_=>by simp at h
 | c::xss,hs,0,f,cs,ps,h,hl=>by
  grind [ZF]
 | c::xss,hs,i+1,f,cs,ps,h,hl=>by
  simp only [xW] at h
  have ih:=LW (fun c hc=>hs c (by simp [hc])) h hl
  have hlc:=hs c MBV
  obtain⟨_,e2⟩:=Fg (fun c hc=>hs c MK9) h
  have JM:cs.length=s:=hs cs (by simp [List.mem_of_getElem? h])
  simp only [List.set_cons_succ,xI,ih]
  have e:(i+1) * s+f=c.length+(i * s+f):=by rw [hlc,jm];omega
  rw [e,mR (l:=xss.flatten) ME,mR (l:=c++xss.flatten) MEw,vZ,zV]
  rw [kX (l:=c) MBc,show List.drop (c.length+(i * s+f)+ps.length) c=[] from qb ME]
  have e1:c.length+(i * s+f) - c.length=i * s+f:=by omega
  have e2:c.length+(i * s+f)+ps.length - c.length=i * s+f+ps.length:=by omega
  rw [e1,e2]
  simp
theorem Qk {v:AV} (h:pl v=true):BI v=[v]:=by
 cases v with
 | p v=>cases v <;> first | rfl | (simp [pl] at h)
 | agg=>simp [pl] at h
 | _=>rfl
theorem Pv:∀ xss:List (List PV),Cg xss=xss.map fun cs=>cs.map .p
 | []=>rfl
 | cs::r=>by rw [Cg,Pv r];rfl
theorem OW (xss:List (List PV)):(Cg xss).flatten=xss.flatten.map .p:=by grind [Pv]
theorem Ja {xss:List (List PV)} {s:Nat} (h:∀ cs∈xss,cs.length=s):∀ cs∈Cg xss,cs.length=s:=by
 rw [Pv]
 simp_all
theorem aEU {xss:List (List PV)} {i:Nat} {cs:List PV} (h:xss[i]?=some cs):(Cg xss)[i]?=some (cs.map .p):=by rw [Pv,kF,h];rfl
theorem Tc (xss:List (List PV)):(Cg xss).length=xss.length:=by grind [Pv]
theorem fQ {α:Type} {xss:List (List α)} {s i:Nat} {x:List α} (h:∀ cs∈xss,cs.length=s) (hx:x.length=s):∀ cs∈xss.set i x,cs.length=s:=by
 grind
theorem uK (h:R C Γ H w) {t:TypeId} {a x:AV} {a' x':Value} (ha:VR Γ a a') (hx:VR Γ x x') {K:KH} (hv:ZG C t a x H K) :
  ∃ w',(Instr.storeAt t a' x').run C.P w=.ok () w'/\NV C Γ H w K undef w':=by
 unfold ZG at hv
 split at hv <;> try exact hv.elim
 rename_i s hs
 split at hv <;> try exact hv.elim
 rename_i hk
 simp only [qC] at hk
 obtain⟨⟨h2,h3a⟩,h4⟩:=hk
 have h3:=qI h3a
 clear h3a
 have TM:CX Γ (BI x) (Pw x'):=Na hx h2
 have hsz:x'.cells.size=s:=by
  rw [<- vL,H8,BH TM,h3]
 have hl:x'.cells.toList=Pw x':=H8 x'
 have fin:∀ {n:Nat} {o:Ag} {q:Pl} {k:Nat} {c':Cn},Aq H.l n=some o->o.fr=false->BV o.c=true->Γ.nm n=some q->q.nl=false->k+(BI x).length<=(flat o.c).length->BV c'=true->flat c'=Fv (flat o.c) k (BI x)->DN q.s q.tc c' ->
   K Bv { H with l:=DJ H.l n { o with c:=c' } }->a'=.pointer (some ⟨q.blk,k,none⟩)->∃ w',(Instr.storeAt t a' x').run C.P w=.ok () w'/\NV C Γ H w K undef w':=by
  intro n o q k c' hn Ea hc hq BF hk Wi hf hz hK ha'
  obtain⟨w',hr,hL⟩:=VC h hn Ea hc hq BF hk TM (mV TM h4) Wi hf hz
  refine⟨w',?_,Bv,_,Γ,hK,IQ Γ,hL⟩
  subst ha'
  simp [Instr.storeAt,Instr.sureAddr,storeVar,CO hs,hsz,hl,hr]
 have szd:∀ {n:Nat} {o:Ag} {q:Pl},Aq H.l n=some o->BV o.c=true->Γ.nm n=some q->q.nl=false->DN q.s q.tc o.c:=by
  intro n o q hn hc hq BF
  obtain⟨us,rest,z,g1,g2,g3,g3',g4,g5,g6,g7,g8⟩:=cellsOf h hn hc hq BF
  exact g7
 split at hv
 ·rename_i n i f
  simp only [VR] at ha
  obtain⟨q,hq,BF,ha'⟩:=ha
  split at hv <;> try exact hv.elim
  rename_i o ho
  split at hv <;> try exact hv.elim
  rename_i Ea
  split at hv <;> try exact hv.elim
  ·rename_i cs hc
   split at hv <;> try exact hv.elim
   rename_i VE
   simp only [qC] at VE
   have hi:=qI VE.1
   have hle:=qp VE.2
   subst hi
   have hS:=szd ho MCO hq BF
   rw [hc] at hS
   exact fin (k:=f) (c':=.bx (Fv cs f (BI x))) ho Ea (by rw [hc];rfl) hq BF (by rw [hc,h3];exact hle) rfl MCO MKt hv (by rw [ha'];simp)
  ·rename_i xs hc
   split at hv <;> try exact hv.elim
   rename_i _ y dF
   simp only [qC] at dF
   have AO:BI (.p y)=[.p y]:=Qk dF.2
   have dF:=qI dF.1
   subst dF
   have hS:=szd ho MCO hq BF
   rw [hc] at hS
   simp only [DN] at hS
   refine fin (k:=i) ho Ea MCO hq BF ?_ (c':=.pu (xs.set i y)) rfl ?_ hS hv.2 MHl
   ·grind [flat]
   ·rw [hc,AO];simp only [flat];rw [Ql,jo]
   rename_i y _ z ES dF
   simp only [qC] at dF
   have AO:BI y=[y]:=Qk dF.2
   have dF:=qI dF.1
   subst dF
   have hS:=szd ho MCO hq BF
   rw [hc] at hS
   simp only [DN] at hS
   refine fin (k:=i) ho Ea MCO hq BF ?_ (c':=.mx (Fv (xs.map .p) i [y])) rfl ?_ hS hv.2 MHl
   ·grind [flat]
   ·rw [hc,AO];rfl
  ·rename_i xss hc
   split at hv
   ·rename_i ps hps
    obtain⟨cs,JM,hle,hK⟩:=hv
    have hS:=szd ho MCO hq BF
    rw [hc] at hS
    simp only [DN] at hS
    have II:=KG hps
    have hlp:ps.length=s:=by rw [<- h3,II];simp
    obtain⟨e1,e2⟩:=Fg hS JM
    have IL:cs.length=q.s:=hS cs (jD JM)
    refine fin (k:=i * q.s+f) ho Ea MCO hq BF ?_ (c':=.GN (xss.set i (Fv cs f ps))) rfl ?_ ?_ hK ha'
    ·grind [flat]
    ·rw [hc];simp only [flat]
     rw [LW hS JM ME,II]
     have:∀ (l vs:List PV) (k:Nat),(Fv l k vs).map AV.p=Fv (l.map .p) k (vs.map .p):=by
      intro l vs k
      apply kU
      intro j
      rw [kF,GI,GI]
      simp only [qB,kF]
      split <;> rfl
     exact this _ _ _
    ·intro c hcm
     grind [Ep]
   ·obtain⟨cs,JM,hle,hK⟩:=hv
    have hS:=szd ho MCO hq BF
    rw [hc] at hS
    simp only [DN] at hS
    obtain⟨e1,e2⟩:=Fg hS JM
    have IL:cs.length=q.s:=hS cs (jD JM)
    refine fin (k:=i * q.s+f) ho Ea MCO hq BF ?_ (c':=.Gw ((Cg xss).set i (Fv (cs.map .p) f (BI x)))) rfl ?_ ?_ hK ha'
    ·grind [flat]
    ·rw [hc];simp only [flat]
     rw [LW (Ja hS) (aEU JM) MHl,OW]
    ·exact fQ (Ja hS) (by grind [Ep])
  ·rename_i xs hc
   split at hv <;> try exact hv.elim
   rename_i VE
   simp only [qC] at VE
   have dF:=qI VE.1.1
   have GL:i<xs.length:=by simpa using VE.1.2
   have AO:=Qk VE.2
   subst dF
   have hS:=szd ho MCO hq BF
   rw [hc] at hS
   simp only [DN] at hS
   refine fin (k:=i) ho Ea MCO hq BF ?_ (c':=.mx (Fv xs i [x])) rfl ?_ hS hv MHl
   ·grind [flat]
   ·rw [hc,AO];rfl
  ·rename_i xss hc
   obtain⟨cs,JM,hle,hK⟩:=hv
   have hS:=szd ho MCO hq BF
   rw [hc] at hS
   simp only [DN] at hS
   obtain⟨e1,e2⟩:=Fg hS JM
   have IL:cs.length=q.s:=hS cs (jD JM)
   refine fin (k:=i * q.s+f) ho Ea MCO hq BF ?_ (c':=.Gw (xss.set i (Fv cs f (BI x)))) rfl ?_ ?_ hK ha'
   ·grind [flat]
   ·grind [flat,LW]
   ·exact fQ hS (by grind [Ep])
 ·rename_i n i f
  simp only [VR] at ha
  obtain⟨q,hq,BF,ha'⟩:=ha
  split at hv <;> try exact hv.elim
  rename_i o ho
  split at hv <;> try exact hv.elim
  rename_i Ea
  split at hv <;> try exact hv.elim
  rename_i cs hc
  split at hv <;> try exact hv.elim
  rename_i hi
  have hi:=qI hi
  subst hi
  have hS:=szd ho MCO hq BF
  rw [hc] at hS
  exact fin (k:=f) (c':=.bx (Fv cs f (BI x))) ho Ea (by rw [hc];rfl) hq BF (by rw [hc,h3];exact hv.1) rfl MCO MKt hv.2 (by rw [ha'];simp)
 ·exact hv.elim
end
end Go.Proofs.YtkegmchjobphdaaGreatDoor.Y
