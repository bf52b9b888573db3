/- Part 4 of the proof: Kw Kx Ky Ga Ja Jb Jc Jd Je Jf Jg Ua Ub Uc Ud Ue Uf Ug Uh Tc Td Ui Lo Lp Lq Lr Lv Lw Pa Pb Oa Ob Oc Od Oe Of Og Ra Uj Uk Ul Um Wa Wb Wc Wd We Wf Wg Wh Wi Wj Wk Gb Gc Gd Va Vb Za Zb Aa Zc Ac Gf Gg Gh Ge Gi Ej Ea Eb Ec Ed Ex Ef Eg Be Vc -/
import Derived.ChangeArms
import Derived.OpenShut
import Derived.WideHanded
import Derived.ChangeSame
import Derived.ProofKit
import Derived.LaidMore
import Derived.LaidLaws
import Derived.Stop.Joined
import Derived.MakeChecks
import Derived.Test.YtmepdfingcmkmaaGreatDoorQ3
namespace Go.Proofs.YtmepdfingcmkmaaGreatDoor
open Go Y
set_option maxRecDepth 100000
set_option maxHeartbeats 40000000
set_option maxHeartbeats 4000000
mutual
def csz:Cd→Nat
 | .mk _ _ _ _ _ _ ar=>cszL ar+1
def cszL:List Cd→Nat
 | []=>0
 | c::r=>csz c+cszL r
end
theorem csz_mem:∀ {l:List Cd} {c:Cd},c∈l→csz c≤cszL l
 | [],_,h=>by simp at h
 | x::l,c,h=>by
  rw [cszL]
  rcases List.mem_cons.1 h with rfl | h
  ·omega
  ·have:=csz_mem h;omega
theorem rf_ext {a b:Rf} (h:a.cells=b.cells):a=b:=by
 obtain⟨n,m,p,k⟩:=a
 obtain⟨n',m',p',k'⟩:=b
 injection h with h1 h
 injection h with h2 h
 injection h with h3 h
 injection h with h4 h
 injection h1 with h1
 injection h2 with _ h2
 injection h3 with h3
 injection h4 with _ h4
 subst h1 h2 h3 h4
 rfl
def Out {α:Type} (b:Bool) (p:Nat) (r:Rd α) (a:α) (q:Nat) (b':Bool):Prop:=if b=true then b'=true∧q=p else r=if b'=true then .inl q else .inr (a,q)
theorem Out.then {α β:Type} {b b1 b2:Bool} {p q q2:Nat} {r:Rd α} {k:α→Nat→Rd β} {a:α} {c:β} (h:Out b p r a q b1) (h2:Out b1 q (k a q) c q2 b2):Out b p (r.then k) c q2 b2:=by
 cases b
 ·have h:r=if b1=true then .inl q else .inr (a,q):=h
  show r.then k=_
  cases b1
  ·rw [if_neg (by decide)] at h
   subst h
   exact h2
  ·rw [if_pos rfl] at h
   subst h
   obtain⟨rfl,rfl⟩:b2=true∧q2=q:=h2
   rfl
 ·obtain⟨rfl,rfl⟩:b1=true∧q=p:=h
  exact h2
theorem Out.bad {α:Type} {p:Nat} {r:Rd α} {a:α}:Out true p r a p true:=⟨rfl,rfl⟩
theorem Out.same {α:Type} {b:Bool} {p:Nat} {a:α}:Out b p (.inr (a,p)) a p b:=by
 cases b
 ·rfl
 ·exact⟨rfl,rfl⟩
theorem Out.ret {α:Type} {b:Bool} {p:Nat} {a a':α} (h:a=a'):Out b p (.inr (a,p)) a' p b:=by
 subst h;exact Out.same
def LK {α:Type} (b0:Bool) (q0:Nat) (R:Rd α) (go:Nat→Rd α) (n:Nat) (q:Nat) (b:Bool):Prop:=∃ f,(b=false→n - q<f)∧∀ l q' b',Out b q (go f) l q' b'→Out b0 q0 R l q' b'
theorem LK.step {α:Type} {b0:Bool} {q0:Nat} {R:Rd α} {go go':Nat→Rd α} {n q q2:Nat} {b2:Bool} (h:LK b0 q0 R go n q false) (hs:∀ f l q' b',Out b2 q2 (go' f) l q' b'→Out false q (go (f+1)) l q' b') (hlt:b2=false→q<q2∧q2≤n):LK b0 q0 R go' n q2 b2:=by
 obtain⟨f,hf,hk⟩:=h
 obtain⟨f,rfl⟩:∃ g,f=g+1:=⟨f - 1,by have:=hf rfl;omega⟩
 refine⟨f,fun e=>?_,fun l q' b' ho=>hk l q' b' (hs f l q' b' ho)⟩
 have:=hf rfl
 have:=hlt e
 omega
def sgL:List (List UInt8):=[tEq,tNe,tLt,tLe]
def sg (i:Nat):List UInt8:=sgL.getD i []
set_option maxHeartbeats 40000000
theorem vdraw_ot {C : Cx} {rd : Bool} {n0 N : Nat} {all : List Oper} {σ : Sg} {ds : List AD} {H : Hp} {K : Sg → List AD → Hp → Prop} {X : List AP → Sg → List AD → Hp → Prop} (ot : OT)
    (h : (C.P.follows .mixedOrders && slotsOK N all (masks all []) && otOK all (masks all []) ot [] [] []) = true) (hv : vD C rd all σ K X ot [] ds H) :
    ∃ ot, (C.P.follows .mixedOrders && slotsOK N all (masks all []) && otOK all (masks all []) ot [] [] []) = true ∧
    ((vD C rd all σ K X ot [] ds H) ∨
     ∃ (α : Type) (sl : α → List (Nat × AV)) (hp : α → Hp) (pr : α → Prop),
      vD C rd all σ (fun σ' ds' H' => ∃ x, pr x ∧ Ent C n0 N σ' ds' H' (sets (fun _ => .junk) (sl x)) ds (hp x)) X ot [] ds H ∧
      ∀ x, pr x → K (sets (fun _ => .junk) (sl x)) ds (hp x)) := ⟨_, h, .inl hv⟩
theorem vdraw_otTo {C : Cx} {rd : Bool} {n0 N : Nat} {all : List Oper} {σ : Sg} {ds : List AD} {H : Hp} {K : Sg → List AD → Hp → Prop} {X : List AP → Sg → List AD → Hp → Prop} (sl : List (Nat × AV)) (hp : Hp) (ot : OT)
    (h : (C.P.follows .mixedOrders && slotsOK N all (masks all []) && otOK all (masks all []) ot [] [] []) = true)
    (hv : vD C rd all σ (fun σ' ds' H' => Ent C n0 N σ' ds' H' (sets (fun _ => .junk) sl) ds hp) X ot [] ds H) (hk : K (sets (fun _ => .junk) sl) ds hp) :
    ∃ ot, (C.P.follows .mixedOrders && slotsOK N all (masks all []) && otOK all (masks all []) ot [] [] []) = true ∧
    ((vD C rd all σ K X ot [] ds H) ∨
     ∃ (α : Type) (sl : α → List (Nat × AV)) (hp : α → Hp) (pr : α → Prop),
      vD C rd all σ (fun σ' ds' H' => ∃ x, pr x ∧ Ent C n0 N σ' ds' H' (sets (fun _ => .junk) (sl x)) ds (hp x)) X ot [] ds H ∧
      ∀ x, pr x → K (sets (fun _ => .junk) (sl x)) ds (hp x)) :=
  ⟨_, h, .inr ⟨Unit, fun _ => sl, fun _ => hp, fun _ => True, by
    have e : (fun σ' ds' H' => ∃ _x : Unit, True ∧ Ent C n0 N σ' ds' H' (sets (fun _ => .junk) sl) ds hp) = fun σ' ds' H' => Ent C n0 N σ' ds' H' (sets (fun _ => .junk) sl) ds hp := by
      funext a b c
      exact propext ⟨fun ⟨_, _, h⟩ => h, fun h => ⟨(), trivial, h⟩⟩
    rw [e]; exact hv, fun _ _ => hk⟩⟩
theorem Out.val {α:Type} {b:Bool} {p:Nat} {r:Rd α} {a a':α} {q:Nat} {b':Bool} (h:Out b p r a q b') (e:b'=false→a=a'):Out b p r a' q b':=by
 cases b'
 ·rw [← e rfl];exact h
 ·cases b
  ·exact h
  ·exact h
set_option maxHeartbeats 4000000
abbrev TCk:TypeId:=87
abbrev TIss:TypeId:=60
def isO (l:List Iss):AObj:=⟨TIss,false, .pus (l.map Iss.cells)⟩
def fmO (es:List (List UInt8 × PV)):AObj:=⟨85,false, .ms es⟩
def ckO (ds:List De) (a:Int) (k n:Nat):AObj:=⟨TCk,false, .bx [.p (des ds), .p (i64 a), .mp 1, .sl k 3 0 n]⟩
abbrev ckS (ds:List De) (a:Nat) (es:List (List UInt8 × PV)) (l:List Iss):Hp:=⟨3,[(2,isO l),(1,fmO es),(0,ckO ds (a:Nat) 2 l.length)]⟩
abbrev ckT (ds:List De) (a:Nat) (es:List (List UInt8 × PV)) (l:List Iss):Hp:=⟨4,[(3,isO l),(1,fmO es),(0,ckO ds (a:Nat) 3 l.length)]⟩
structure CkS (ds:List De) (a:Nat) (es:List (List UInt8 × PV)):Prop where
 look:∀ nm,nm ≠ []→findM es nm=(fstI (ds.take a) nm).map fun i=>i64 (i:Nat)
 len:ds.length≤30
 le:a≤ds.length
def ckQ (H:Hp) (v:PV) (e:AE) (H':Hp):Prop:=e=.returned (.p v)∧H'=H
theorem CkS.none {ds:List De} {a:Nat} {es:List (List UInt8 × PV)} (h:CkS ds a es) {nm:List UInt8} (hn:nm ≠ []) (hf:fstV (ds.take a) nm=none):findM es nm=none:=by
 have:=h.look nm hn
 rw [fstV] at hf
 cases hi:fstI (ds.take a) nm with
 | none=>rw [hi] at this;exact this
 | some i=>rw [hi] at hf;cases hf
theorem CkS.some {ds:List De} {a:Nat} {es:List (List UInt8 × PV)} (h:CkS ds a es) {nm:List UInt8} (hn:nm ≠ []) {t:De} (hf:fstV (ds.take a) nm=some t):∃ i:Nat,findM es nm=some (i64 (i:Nat))∧i<ds.length∧(ds.map De.cells)[i]?=Option.some t.cells:=by
 have:=h.look nm hn
 rw [fstV] at hf
 cases hi:fstI (ds.take a) nm with
 | none=>rw [hi] at hf;cases hf
 | some i=>
  rw [hi] at this hf
  obtain⟨hl,hv⟩:=fst_at hi
  rw [fstV_some hi] at hv
  injection hv with hv
  injection hf with hf
  have hf:(ds.take a).getD i de0=t:=hf
  refine⟨i,this,hl,?_⟩
  have:=decell hl
  rw [← hv,hf] at this
  exact this
theorem size_h {ds:List De} {a:Nat} {es:List (List UInt8 × PV)} (b:Nat) (l:List Iss) (h:CkS ds a es) {nm:List UInt8} (hn:nm ≠ []):HoldsG cx 88 [.ptr 0 0 0, .p (.str nm)] (ckS ds b es l) (ckQ (ckS ds b es l) (i64 (sizeV (ds.take a) nm))):=by
 cases hv:fstV (ds.take a) nm with
 | none=>
  have hs:sizeV (ds.take a) nm=0:=by rw [sizeV,hv]
  have hf:=h.none hn hv
  rw [hs]
  refine holdsN_of_vc Tryz.func88 rfl rfl rfl ?_
  refine⟨_, .inr ⟨hf,rfl⟩,?_⟩
  exact⟨[],[],[], .returned (.p (i64 0)),ckS ds b es l,rfl,sk,sk,rfl,rfl⟩
 | some t=>
  obtain⟨i,hf,hl,hc⟩:=h.some hn hv
  have hs:sizeV (ds.take a) nm=if t.kind=2 then t.n else 0:=by rw [sizeV,hv]
  rw [hs]
  refine holdsN_of_vc Tryz.func88 rfl rfl rfl ?_
  refine⟨_, .inl ⟨_,hf,rfl⟩,?_⟩
  refine⟨_,⟨by omega,t.cells,hc,rfl⟩,?_⟩
  (first | refine brLt (fun h2=>?_) (fun h2=>?_) | refine brLe (fun h2=>?_) (fun h2=>?_) | refine brEq (fun h2=>?_) (fun h2=>?_))
  ·have h2:t.kind=2:=h2
   refine⟨_,⟨by omega,t.cells,hc,rfl⟩,?_⟩
   exact⟨[],[],[], .returned (.p (i64 t.n)),ckS ds b es l,rfl,sk,sk,by rw [if_pos h2],rfl⟩
  ·have h2:¬ t.kind=2:=h2
   exact⟨[],[],[], .returned (.p (i64 0)),ckS ds b es l,rfl,sk,sk,by rw [if_neg h2],rfl⟩
theorem ref_eta {r:Rf} {nm pl:List UInt8} {m n:Int}:(r=⟨nm,m,pl,n⟩) ↔ (r.name=nm∧r.mode=m∧r.plate=pl∧r.n=n):=by
 obtain⟨a,b,c,d⟩:=r
 constructor
 ·intro h;injection h with h1 h2 h3 h4;exact⟨h1,h2,h3,h4⟩
 ·rintro⟨rfl,rfl,rfl,rfl⟩;rfl
theorem own_iff {d:De} {r:Rf}:ownB d r=true ↔ d.kind=3∧¬ d.plate=[]∧r=⟨d.name,1,d.plate,if r.n<1 then 1 else r.n⟩:=by
 simp only [ownB,Bool.and_eq_true,decide_eq_true_eq,ref_eta]
 constructor
 ·rintro⟨h1,h2,h3,h4,h5,h6⟩
  exact⟨h1,h2,h3,h4,h5,by rw [if_neg (by omega)]⟩
 ·rintro⟨h1,h2,h3,h4,h5,h6⟩
  exact⟨h1,h2,h3,h4,h5,by split at h6 <;> omega⟩
theorem own_c (d:De) (r:Rf):Pure cx 141 [d.pv,r.pv] (·=.ret [.bool (ownB d r)]):=by
 have hb:∀ {b:Bool},(ownB d r=true ↔ b=true)→PEnd.ret [.bool b]=.ret [.bool (ownB d r)]:=fun h=>by rw [Bool.eq_iff_iff.2 h]
 refine pure_of_vc Tryz.func141 rfl rfl rfl ?_
 (first | refine brLt (fun h1=>?_) (fun h1=>?_) | refine brLe (fun h1=>?_) (fun h1=>?_) | refine brEq (fun h1=>?_) (fun h1=>?_))
 rotate_left
 ·have h1:¬ d.kind=3:=h1
  exact end1 _ rfl rfl (hb ⟨fun h=>absurd (own_iff.1 h).1 h1,fun h=>by cases h⟩)
 have h1:d.kind=3:=h1
 (first | refine brLt (fun h2=>?_) (fun h2=>?_) | refine brLe (fun h2=>?_) (fun h2=>?_) | refine brEq (fun h2=>?_) (fun h2=>?_))
 ·have h2:d.plate=[]:=h2
  exact end1 _ rfl rfl (hb ⟨fun h=>absurd h2 (own_iff.1 h).2.1,fun h=>by cases h⟩)
 have h2:¬ d.plate=[]:=h2
 refine⟨⟨by kernel_rfl,by kernel_rfl⟩,fun h3=>?_,fun h3=>?_⟩
 ·have h3:r=⟨d.name,1,d.plate,if r.n<1 then 1 else r.n⟩:=rf_ext (by first | exact h3 | (injection h3))
  exact end1 _ rfl rfl (hb ⟨fun _=>rfl,fun _=>own_iff.2 ⟨h1,h2,h3⟩⟩)
 ·exact end1 _ rfl rfl (hb ⟨fun h=>absurd (congrArg Rf.cells (own_iff.1 h).2.2) h3,fun h=>by cases h⟩)
def dcO (d:De):AObj:=⟨TDecl,false, .bx (d.cells.map .p)⟩
def rfO (r:Rf):AObj:=⟨TRef,false, .bx (r.cells.map .p)⟩
def cnO (c:Cd):AObj:=⟨TCond,false, .bx (c.cells.map .p)⟩
theorem retA {a b:Int} (h:a=b):AE.returned (.p (i64 a))=.returned (.p (i64 b)):=by rw [h]
theorem reference_h {ds:List De} {a:Nat} {es:List (List UInt8 × PV)} (l:List Iss) (h:CkS ds a es) (d:De) {r:Rf} (hn:r.name ≠ []):HoldsG cx 110 [.ptr 0 0 0, .p d.pv, .p r.pv] (ckS ds a es l) (ckQ (ckS ds a es l) (i64 (refI (ds.take a) d r))):=by
 obtain⟨R,hR⟩:∃ R,R=refI (ds.take a) d r:=⟨_,rfl⟩
 rw [← hR]
 cases hv:fstV (ds.take a) r.name with
 | none=>
  have hf:=h.none hn hv
  have hO:=own_c d r
  rw [refI,hv] at hR
  simp only [] at hR
  clear hv
  obtain⟨dk,dn,dnm,dpl,drs,dcs⟩:=d
  obtain⟨rn,rm,rp,ri⟩:=r
  refine holdsN_of_vc Tryz.func110 rfl rfl rfl ?_
  refine VDraw.seq rfl ?_
  refine⟨_, .inr ⟨hf,rfl⟩,?_⟩
  by_cases ho:ownB ⟨dk,dn,dnm,dpl,drs,dcs⟩ ⟨rn,rm,rp,ri⟩=true
  ·rw [ho] at hO
   rw [if_pos ho] at hR
   refine hO.eq rfl ?_
   exact⟨[],[],[], .returned (.p (i64 0)),ckS ds a es l,rfl,sk,sk,retA hR.symm,rfl⟩
  ·rw [if_neg ho] at hR
   rw [Bool.not_eq_true] at ho
   rw [ho] at hO
   refine hO.eq rfl ?_
   exact⟨[],[],[], .returned (.p (i64 3)),ckS ds a es l,rfl,sk,sk,retA hR.symm,rfl⟩
 | some t=>
  obtain⟨i,hf,hl,hc⟩:=h.some hn hv
  rw [refI,hv] at hR
  simp only [] at hR
  clear hv
  obtain⟨dk,dn,dnm,dpl,drs,dcs⟩:=d
  obtain⟨rn,rm,rp,ri⟩:=r
  obtain⟨tk,tn,tnm,tpl,trs,tcs⟩:=t
  rw [placeI] at hR
  simp only [] at hR
  refine holdsN_of_vc Tryz.func110 rfl rfl rfl ?_
  refine VDraw.seq rfl ?_
  refine⟨_, .inl ⟨_,hf,rfl⟩,?_⟩
  refine⟨_,⟨by omega,(De.mk tk tn tnm tpl trs tcs).cells,hc,rfl⟩,?_⟩
  (first | refine brLt (fun k2=>?_) (fun k2=>?_) | refine brLe (fun k2=>?_) (fun k2=>?_) | refine brEq (fun k2=>?_) (fun k2=>?_))
  ·have k2:tk=2:=k2
   rw [if_pos k2] at hR
   exact⟨[],[],[], .returned (.p (i64 4)),ckS ds a es l,rfl,sk,sk,retA hR.symm,rfl⟩
  have k2:¬ tk=2:=k2
  rw [if_neg k2] at hR
  (first | refine brLt (fun p0=>?_) (fun p0=>?_) | refine brLe (fun p0=>?_) (fun p0=>?_) | refine brEq (fun p0=>?_) (fun p0=>?_))
  ·have p0:tpl=[]:=p0
   rw [if_pos p0] at hR
   (first | refine brLt (fun m0=>?_) (fun m0=>?_) | refine brLe (fun m0=>?_) (fun m0=>?_) | refine brEq (fun m0=>?_) (fun m0=>?_))
   ·have m0:rm=0:=m0
    rw [decide_eq_false (by omega)] at hR
    exact⟨[],[],[], .returned (.p (i64 0)),ckS ds a es l,rfl,sk,sk,retA hR.symm,rfl⟩
   ·have m0:¬ rm=0:=m0
    rw [decide_eq_true m0] at hR
    exact⟨[],[],[], .returned (.p (i64 4)),ckS ds a es l,rfl,sk,sk,retA hR.symm,rfl⟩
  have p0:¬ tpl=[]:=p0
  rw [if_neg p0] at hR
  (first | refine brLt (fun m0=>?_) (fun m0=>?_) | refine brLe (fun m0=>?_) (fun m0=>?_) | refine brEq (fun m0=>?_) (fun m0=>?_))
  ·have m0:rm=0:=m0
   rw [if_pos m0] at hR
   exact⟨[],[],[], .returned (.p (i64 4)),ckS ds a es l,rfl,sk,sk,retA hR.symm,rfl⟩
  have m0:¬ rm=0:=m0
  rw [if_neg m0] at hR
  (first | refine brLt (fun m2=>?_) (fun m2=>?_) | refine brLe (fun m2=>?_) (fun m2=>?_) | refine brEq (fun m2=>?_) (fun m2=>?_))
  ·have m2:rm=2:=m2
   rw [if_pos m2] at hR
   refine VDraw.seq rfl ?_
   refine(size_h a l h p0).holds.useT [] [] rfl (sk) (sk) fun e0 H0 hq=>?_
   obtain⟨rfl,rfl⟩:=hq
   refine⟨rfl,_,⟨6,(2,isO l)::(1,fmO es)::(0,ckO ds (a:Nat) 2 l.length)::[(5,dcO ⟨tk,tn,tnm,tpl,trs,tcs⟩),(4,rfO ⟨rn,rm,rp,ri⟩),(3,dcO ⟨dk,dn,dnm,dpl,drs,dcs⟩)]⟩,rfl,rfl,?_⟩
   refine⟨sk,?_⟩
   (first | refine brLt (fun g1=>?_) (fun g1=>?_) | refine brLe (fun g1=>?_) (fun g1=>?_) | refine brEq (fun g1=>?_) (fun g1=>?_))
   ·have g1:sizeV (ds.take a) tpl≤ri:=g1
    rw [decide_eq_true g1] at hR
    exact⟨[],[],[], .returned (.p (i64 4)),ckS ds a es l,rfl,sk,sk,retA hR.symm,rfl⟩
   ·have g1:¬ sizeV (ds.take a) tpl≤ri:=g1
    rw [decide_eq_false g1] at hR
    exact⟨[],[],[], .returned (.p (i64 0)),ckS ds a es l,rfl,sk,sk,retA hR.symm,rfl⟩
  have m2:¬ rm=2:=m2
  rw [if_neg m2] at hR
  (first | refine brLt (fun m1=>?_) (fun m1=>?_) | refine brLe (fun m1=>?_) (fun m1=>?_) | refine brEq (fun m1=>?_) (fun m1=>?_))
  ·have m1:rm=1:=m1
   rw [if_pos m1] at hR
   (first | refine brLt (fun q1=>?_) (fun q1=>?_) | refine brLe (fun q1=>?_) (fun q1=>?_) | refine brEq (fun q1=>?_) (fun q1=>?_))
   rotate_left
   ·have q1:¬ dk=3:=q1
    rw [decide_eq_true (show ¬ (dk=3∧dpl=tpl∧rp=tpl) from fun h=>q1 h.1)] at hR
    exact⟨[],[],[], .returned (.p (i64 4)),ckS ds a es l,rfl,sk,sk,retA hR.symm,rfl⟩
   have q1:dk=3:=q1
   (first | refine brLt (fun q2=>?_) (fun q2=>?_) | refine brLe (fun q2=>?_) (fun q2=>?_) | refine brEq (fun q2=>?_) (fun q2=>?_))
   rotate_left
   ·have q2:¬ dpl=tpl:=q2
    rw [decide_eq_true (show ¬ (dk=3∧dpl=tpl∧rp=tpl) from fun h=>q2 h.2.1)] at hR
    exact⟨[],[],[], .returned (.p (i64 4)),ckS ds a es l,rfl,sk,sk,retA hR.symm,rfl⟩
   have q2:dpl=tpl:=q2
   (first | refine brLt (fun q3=>?_) (fun q3=>?_) | refine brLe (fun q3=>?_) (fun q3=>?_) | refine brEq (fun q3=>?_) (fun q3=>?_))
   ·have q3:rp=tpl:=q3
    rw [decide_eq_false (show ¬ ¬ (dk=3∧dpl=tpl∧rp=tpl) from fun h=>h ⟨q1,q2,q3⟩)] at hR
    exact⟨[],[],[], .returned (.p (i64 0)),ckS ds a es l,rfl,sk,sk,retA hR.symm,rfl⟩
   ·have q3:¬ rp=tpl:=q3
    rw [decide_eq_true (show ¬ (dk=3∧dpl=tpl∧rp=tpl) from fun h=>q3 h.2.2)] at hR
    exact⟨[],[],[], .returned (.p (i64 4)),ckS ds a es l,rfl,sk,sk,retA hR.symm,rfl⟩
  ·have m1:¬ rm=1:=m1
   rw [if_neg m1] at hR
   exact⟨[],[],[], .returned (.p (i64 0)),ckS ds a es l,rfl,sk,sk,retA hR.symm,rfl⟩
def valQ (ds:List De) (a:Nat) (es:List (List UInt8 × PV)) (l:List Iss) (v:Option Int) (e:AE) (H':Hp):Prop:=e=.returned (.tup [.p (i64 (v.getD 0)),vB v.isSome])∧H'=ckS ds a es l
theorem values_h {ds:List De} {a:Nat} {es:List (List UInt8 × PV)} (l:List Iss) (h:CkS ds a es) (d:De) {r:Rf} (hn:r.name ≠ []):HoldsG cx 142 [.ptr 0 0 0, .p d.pv, .p r.pv] (ckS ds a es l) (valQ ds a es l (valI (ds.take a) d r)):=by
 obtain⟨R,hR⟩:∃ R,R=valI (ds.take a) d r:=⟨_,rfl⟩
 rw [← hR]
 cases hv:fstV (ds.take a) r.name with
 | none=>
  have hf:=h.none hn hv
  have hO:=own_c d r
  rw [valI,hv] at hR
  simp only [] at hR
  clear hv
  obtain⟨dk,dn,dnm,dpl,drs,dcs⟩:=d
  obtain⟨rn,rm,rp,ri⟩:=r
  refine holdsN_of_vc Tryz.func142 rfl rfl rfl ?_
  refine VDraw.seq rfl ?_
  refine⟨_, .inr ⟨hf,rfl⟩,?_⟩
  by_cases ho:ownB ⟨dk,dn,dnm,dpl,drs,dcs⟩ ⟨rn,rm,rp,ri⟩=true
  ·rw [ho] at hO
   rw [if_pos ho] at hR
   subst hR
   refine hO.eq rfl ?_
   exact⟨[],[],[], .returned (.tup [.p (i64 dn),vB true]),ckS ds a es l,rfl,sk,sk,rfl,rfl⟩
  ·rw [if_neg ho] at hR
   rw [Bool.not_eq_true] at ho
   rw [ho] at hO
   subst hR
   refine hO.eq rfl ?_
   exact⟨[],[],[], .returned (.tup [.p (i64 0),vB false]),ckS ds a es l,rfl,sk,sk,rfl,rfl⟩
 | some t=>
  obtain⟨i,hf,hl,hc⟩:=h.some hn hv
  rw [valI,hv] at hR
  simp only [] at hR
  clear hv
  obtain⟨dk,dn,dnm,dpl,drs,dcs⟩:=d
  obtain⟨rn,rm,rp,ri⟩:=r
  obtain⟨tk,tn,tnm,tpl,trs,tcs⟩:=t
  simp only [] at hR
  refine holdsN_of_vc Tryz.func142 rfl rfl rfl ?_
  refine VDraw.seq rfl ?_
  refine⟨_, .inl ⟨_,hf,rfl⟩,?_⟩
  refine⟨_,⟨by omega,(De.mk tk tn tnm tpl trs tcs).cells,hc,rfl⟩,?_⟩
  (first | refine brLt (fun k2=>?_) (fun k2=>?_) | refine brLe (fun k2=>?_) (fun k2=>?_) | refine brEq (fun k2=>?_) (fun k2=>?_))
  ·have k2:tk=2:=k2
   rw [if_pos k2] at hR
   subst hR
   exact⟨[],[],[], .returned (.tup [.p (i64 0),vB false]),ckS ds a es l,rfl,sk,sk,rfl,rfl⟩
  ·have k2:¬ tk=2:=k2
   rw [if_neg k2] at hR
   subst hR
   refine⟨_,⟨by omega,(De.mk tk tn tnm tpl trs tcs).cells,hc,rfl⟩,?_⟩
   exact⟨[],[],[], .returned (.tup [.p (i64 tn),vB true]),ckS ds a es l,rfl,sk,sk,rfl,rfl⟩
theorem cktest_h {ds:List De} {a:Nat} {es:List (List UInt8 × PV)} (l:List Iss) (h:CkS ds a es) (d:De) {op n rel val:Int} {r:Rf} {st:List Int} {ar:List Cd} (hn:r.name ≠ []) (hst:op=5→1≤st.length) (hsl:st.length≤100) (hdr:d.refs.length≤100):HoldsG cx 112 [.ptr 0 0 0, .p d.pv, .p (Cd.mk op n rel val r st ar).pv] (ckS ds a es l) (ckQ (ckS ds a es l) (i64 (testI (ds.take a) d op n val r st))):=by
 obtain⟨R,hR⟩:∃ R,R=testI (ds.take a) d op n val r st:=⟨_,rfl⟩
 rw [← hR]
 have hVal:=values_h l h d hn
 obtain⟨dk,dn,dnm,dpl,drs,dcs⟩:=d
 have hdr:drs.length≤100:=hdr
 rw [testI] at hR
 cases hV:valI (ds.take a) ⟨dk,dn,dnm,dpl,drs,dcs⟩ r with
 | none=>
  rw [hV] at hVal hR
  simp only [] at hR
  clear hV
  refine holdsN_of_vc Tryz.func112 rfl rfl rfl ?_
  refine⟨Nat,fun k=>[(0, .ptr 0 0 0),(4, .ptr 3 0 0),(5, .ptr 4 0 0),(7, .p (.bool false)),(14, .p (rfl_ drs)),(15, .p (i64 drs.length)),(16, .p (i64 k))],fun _=>⟨5,[(4,cnO (.mk op n rel val r st ar)),(3,dcO ⟨dk,dn,dnm,dpl,drs,dcs⟩),(2,isO l),(1,fmO es),(0,ckO ds (a:Nat) 2 l.length)]⟩,fun k=>k≤drs.length∧∀ x∈drs.take k,x ≠ r,fun k=>drs.length - k,?_,?_⟩
  ·exact⟨0,⟨Nat.zero_le _,by simp⟩,ent_of [] [] [] rfl ⟨⟨rfl,rfl⟩,⟨rfl,rfl⟩,⟨rfl,rfl⟩,rfl,rfl,congrArg (fun n:Nat=>i64 n) (List.length_map ..).symm,rfl,trivial⟩ (sk) rfl⟩
  rintro k ⟨k1,k2⟩
  (first | refine brLt (fun m1=>?_) (fun m1=>?_) | refine brLe (fun m1=>?_) (fun m1=>?_) | refine brEq (fun m1=>?_) (fun m1=>?_))
  rotate_left
  ·have m1:¬ (k:Int)<(drs.length:Nat):=m1
   rw [take_all (by omega)] at k2
   have hno:r ∉ drs:=fun hr=>k2 r hr rfl
   rw [if_pos hno] at hR
   exact⟨[],[],[], .returned (.p (i64 7)),ckS ds a es l,rfl,sk,sk,retA hR.symm,rfl⟩
  have m1:(k:Int)<(drs.length:Nat):=m1
  have hk:k<drs.length:=by omega
  have hcell:=rcell hk
  have hmem:=getD_memL rf0 hk
  have hnx:∀ x∈drs.take (k+1),x=drs.getD k rf0∨x∈drs.take k:=fun x hx=>by
   rw [take_succ_getD rf0 hk] at hx
   rcases List.mem_append.1 hx with hx | hx
   ·exact .inr hx
   ·exact .inl (List.mem_singleton.1 hx)
  generalize drs.getD k rf0=x at hcell hmem hnx
  refine⟨_,⟨by omega,x.cells,hcell,rfl⟩,?_⟩
  refine⟨⟨by kernel_rfl,by kernel_rfl⟩,fun e1=>?_,fun e1=>?_⟩
  rotate_left
  ·have e1:¬ x=r:=fun e=>e1 (by rw [e])
   refine⟨_,wrap_i64 (by omega) (by omega),?_⟩
   refine⟨k+1,⟨by omega,fun y hy=>?_⟩,ent_of [] [] [] rfl ⟨⟨rfl,rfl⟩,⟨rfl,rfl⟩,⟨rfl,rfl⟩,rfl,rfl,rfl,rfl,trivial⟩ (sk) rfl,by show drs.length - (k+1)<drs.length - k;omega⟩
   rcases hnx y hy with rfl | hy
   ·exact e1
   ·exact k2 y hy
  have e1:x=r:=rf_ext (by first | exact e1 | (injection e1))
  rw [e1] at hmem
  rw [if_neg (fun h=>h hmem)] at hR
  clear hnx hcell k2 m1 hk
  (first | refine brLt (fun md=>?_) (fun md=>?_) | refine brLe (fun md=>?_) (fun md=>?_) | refine brEq (fun md=>?_) (fun md=>?_))
  ·have md:r.mode=3:=md
   (first | refine brLt (fun o6=>?_) (fun o6=>?_) | refine brLe (fun o6=>?_) (fun o6=>?_) | refine brEq (fun o6=>?_) (fun o6=>?_))
   rotate_left
   ·have o6:¬ op=6:=o6
    rw [if_pos ⟨md,o6⟩] at hR
    exact⟨[],[],[], .returned (.p (i64 4)),ckS ds a es l,rfl,sk,sk,retA hR.symm,rfl⟩
   have o6:op=6:=o6
   rw [if_neg (fun h=>h.2 o6)] at hR
   (first | refine brLt (fun o5=>?_) (fun o5=>?_) | refine brLe (fun o5=>?_) (fun o5=>?_) | refine brEq (fun o5=>?_) (fun o5=>?_))
   ·have o5:op=5:=o5
    obtain⟨m,hm⟩:∃ m:Nat,st.length=m+1:=⟨st.length - 1,by have:=hst o5;omega⟩
    have hm1:((st.map i64).length:Int) - 1=(m:Nat):=by rw [List.length_map];omega
    have hmd:st.length - 1=m:=by omega
    refine⟨((m:Nat):Int),by show _=IntKind.i64.wrap (((st.map i64).length:Nat) - 1:Int);rw [hm1];exact wrap_i64 (by omega) (by omega),?_⟩
    refine⟨_,⟨by omega,i64 (st.getD m 0),icell (by omega),rfl⟩,?_⟩
    refine hVal.holds.useT [] [] rfl (sk) (sk) fun e0 H0 hq=>?_
    obtain⟨rfl,rfl⟩:=hq
    refine⟨rfl,_,⟨6,(2,isO l)::(1,fmO es)::(0,ckO ds (a:Nat) 2 l.length)::[(5,rfO x),(4,cnO (.mk op n rel val r st ar)),(3,dcO ⟨dk,dn,dnm,dpl,drs,dcs⟩)]⟩,rfl,rfl,?_⟩
    exact⟨[],[],[], .returned (.p (i64 0)),ckS ds a es l,rfl,sk,sk,retA (by rw [hR]),rfl⟩
   have o5:¬ op=5:=o5
   (first | refine brLt (fun p6=>?_) (fun p6=>?_) | refine brLe (fun p6=>?_) (fun p6=>?_) | refine brEq (fun p6=>?_) (fun p6=>?_))
   ·have p6:op=6:=p6
    refine hVal.holds.useT [] [] rfl (sk) (sk) fun e0 H0 hq=>?_
    obtain⟨rfl,rfl⟩:=hq
    refine⟨rfl,_,⟨6,(2,isO l)::(1,fmO es)::(0,ckO ds (a:Nat) 2 l.length)::[(5,rfO x),(4,cnO (.mk op n rel val r st ar)),(3,dcO ⟨dk,dn,dnm,dpl,drs,dcs⟩)]⟩,rfl,rfl,?_⟩
    exact⟨[],[],[], .returned (.p (i64 0)),ckS ds a es l,rfl,sk,sk,retA (by rw [hR]),rfl⟩
   have p6:¬ op=6:=p6
   refine hVal.holds.useT [] [] rfl (sk) (sk) fun e0 H0 hq=>?_
   obtain⟨rfl,rfl⟩:=hq
   refine⟨rfl,_,⟨6,(2,isO l)::(1,fmO es)::(0,ckO ds (a:Nat) 2 l.length)::[(5,rfO x),(4,cnO (.mk op n rel val r st ar)),(3,dcO ⟨dk,dn,dnm,dpl,drs,dcs⟩)]⟩,rfl,rfl,?_⟩
   exact⟨[],[],[], .returned (.p (i64 0)),ckS ds a es l,rfl,sk,sk,retA (by rw [hR]),rfl⟩
  have md:¬ r.mode=3:=md
  rw [if_neg (fun h=>md h.1)] at hR
  (first | refine brLt (fun o5=>?_) (fun o5=>?_) | refine brLe (fun o5=>?_) (fun o5=>?_) | refine brEq (fun o5=>?_) (fun o5=>?_))
  ·have o5:op=5:=o5
   obtain⟨m,hm⟩:∃ m:Nat,st.length=m+1:=⟨st.length - 1,by have:=hst o5;omega⟩
   have hm1:((st.map i64).length:Int) - 1=(m:Nat):=by rw [List.length_map];omega
   have hmd:st.length - 1=m:=by omega
   refine⟨((m:Nat):Int),by show _=IntKind.i64.wrap (((st.map i64).length:Nat) - 1:Int);rw [hm1];exact wrap_i64 (by omega) (by omega),?_⟩
   refine⟨_,⟨by omega,i64 (st.getD m 0),icell (by omega),rfl⟩,?_⟩
   refine hVal.holds.useT [] [] rfl (sk) (sk) fun e0 H0 hq=>?_
   obtain⟨rfl,rfl⟩:=hq
   refine⟨rfl,_,⟨6,(2,isO l)::(1,fmO es)::(0,ckO ds (a:Nat) 2 l.length)::[(5,rfO x),(4,cnO (.mk op n rel val r st ar)),(3,dcO ⟨dk,dn,dnm,dpl,drs,dcs⟩)]⟩,rfl,rfl,?_⟩
   exact⟨[],[],[], .returned (.p (i64 0)),ckS ds a es l,rfl,sk,sk,retA (by rw [hR]),rfl⟩
  have o5:¬ op=5:=o5
  (first | refine brLt (fun p6=>?_) (fun p6=>?_) | refine brLe (fun p6=>?_) (fun p6=>?_) | refine brEq (fun p6=>?_) (fun p6=>?_))
  ·have p6:op=6:=p6
   refine hVal.holds.useT [] [] rfl (sk) (sk) fun e0 H0 hq=>?_
   obtain⟨rfl,rfl⟩:=hq
   refine⟨rfl,_,⟨6,(2,isO l)::(1,fmO es)::(0,ckO ds (a:Nat) 2 l.length)::[(5,rfO x),(4,cnO (.mk op n rel val r st ar)),(3,dcO ⟨dk,dn,dnm,dpl,drs,dcs⟩)]⟩,rfl,rfl,?_⟩
   exact⟨[],[],[], .returned (.p (i64 0)),ckS ds a es l,rfl,sk,sk,retA (by rw [hR]),rfl⟩
  have p6:¬ op=6:=p6
  refine hVal.holds.useT [] [] rfl (sk) (sk) fun e0 H0 hq=>?_
  obtain⟨rfl,rfl⟩:=hq
  refine⟨rfl,_,⟨6,(2,isO l)::(1,fmO es)::(0,ckO ds (a:Nat) 2 l.length)::[(5,rfO x),(4,cnO (.mk op n rel val r st ar)),(3,dcO ⟨dk,dn,dnm,dpl,drs,dcs⟩)]⟩,rfl,rfl,?_⟩
  exact⟨[],[],[], .returned (.p (i64 0)),ckS ds a es l,rfl,sk,sk,retA (by rw [hR]),rfl⟩
 | some kk=>
  rw [hV] at hVal hR
  simp only [] at hR
  clear hV
  refine holdsN_of_vc Tryz.func112 rfl rfl rfl ?_
  refine⟨Nat,fun k=>[(0, .ptr 0 0 0),(4, .ptr 3 0 0),(5, .ptr 4 0 0),(7, .p (.bool false)),(14, .p (rfl_ drs)),(15, .p (i64 drs.length)),(16, .p (i64 k))],fun _=>⟨5,[(4,cnO (.mk op n rel val r st ar)),(3,dcO ⟨dk,dn,dnm,dpl,drs,dcs⟩),(2,isO l),(1,fmO es),(0,ckO ds (a:Nat) 2 l.length)]⟩,fun k=>k≤drs.length∧∀ x∈drs.take k,x ≠ r,fun k=>drs.length - k,?_,?_⟩
  ·exact⟨0,⟨Nat.zero_le _,by simp⟩,ent_of [] [] [] rfl ⟨⟨rfl,rfl⟩,⟨rfl,rfl⟩,⟨rfl,rfl⟩,rfl,rfl,congrArg (fun n:Nat=>i64 n) (List.length_map ..).symm,rfl,trivial⟩ (sk) rfl⟩
  rintro k ⟨k1,k2⟩
  (first | refine brLt (fun m1=>?_) (fun m1=>?_) | refine brLe (fun m1=>?_) (fun m1=>?_) | refine brEq (fun m1=>?_) (fun m1=>?_))
  rotate_left
  ·have m1:¬ (k:Int)<(drs.length:Nat):=m1
   rw [take_all (by omega)] at k2
   have hno:r ∉ drs:=fun hr=>k2 r hr rfl
   rw [if_pos hno] at hR
   exact⟨[],[],[], .returned (.p (i64 7)),ckS ds a es l,rfl,sk,sk,retA hR.symm,rfl⟩
  have m1:(k:Int)<(drs.length:Nat):=m1
  have hk:k<drs.length:=by omega
  have hcell:=rcell hk
  have hmem:=getD_memL rf0 hk
  have hnx:∀ x∈drs.take (k+1),x=drs.getD k rf0∨x∈drs.take k:=fun x hx=>by
   rw [take_succ_getD rf0 hk] at hx
   rcases List.mem_append.1 hx with hx | hx
   ·exact .inr hx
   ·exact .inl (List.mem_singleton.1 hx)
  generalize drs.getD k rf0=x at hcell hmem hnx
  refine⟨_,⟨by omega,x.cells,hcell,rfl⟩,?_⟩
  refine⟨⟨by kernel_rfl,by kernel_rfl⟩,fun e1=>?_,fun e1=>?_⟩
  rotate_left
  ·have e1:¬ x=r:=fun e=>e1 (by rw [e])
   refine⟨_,wrap_i64 (by omega) (by omega),?_⟩
   refine⟨k+1,⟨by omega,fun y hy=>?_⟩,ent_of [] [] [] rfl ⟨⟨rfl,rfl⟩,⟨rfl,rfl⟩,⟨rfl,rfl⟩,rfl,rfl,rfl,rfl,trivial⟩ (sk) rfl,by show drs.length - (k+1)<drs.length - k;omega⟩
   rcases hnx y hy with rfl | hy
   ·exact e1
   ·exact k2 y hy
  have e1:x=r:=rf_ext (by first | exact e1 | (injection e1))
  rw [e1] at hmem
  rw [if_neg (fun h=>h hmem)] at hR
  clear hnx hcell k2 m1 hk
  (first | refine brLt (fun md=>?_) (fun md=>?_) | refine brLe (fun md=>?_) (fun md=>?_) | refine brEq (fun md=>?_) (fun md=>?_))
  ·have md:r.mode=3:=md
   (first | refine brLt (fun o6=>?_) (fun o6=>?_) | refine brLe (fun o6=>?_) (fun o6=>?_) | refine brEq (fun o6=>?_) (fun o6=>?_))
   rotate_left
   ·have o6:¬ op=6:=o6
    rw [if_pos ⟨md,o6⟩] at hR
    exact⟨[],[],[], .returned (.p (i64 4)),ckS ds a es l,rfl,sk,sk,retA hR.symm,rfl⟩
   have o6:op=6:=o6
   rw [if_neg (fun h=>h.2 o6)] at hR
   (first | refine brLt (fun o5=>?_) (fun o5=>?_) | refine brLe (fun o5=>?_) (fun o5=>?_) | refine brEq (fun o5=>?_) (fun o5=>?_))
   ·have o5:op=5:=o5
    obtain⟨m,hm⟩:∃ m:Nat,st.length=m+1:=⟨st.length - 1,by have:=hst o5;omega⟩
    have hm1:((st.map i64).length:Int) - 1=(m:Nat):=by rw [List.length_map];omega
    have hmd:st.length - 1=m:=by omega
    refine⟨((m:Nat):Int),by show _=IntKind.i64.wrap (((st.map i64).length:Nat) - 1:Int);rw [hm1];exact wrap_i64 (by omega) (by omega),?_⟩
    refine⟨_,⟨by omega,i64 (st.getD m 0),icell (by omega),rfl⟩,?_⟩
    have hg:gstI op n val st=st.getD m 0:=by rw [gstI,if_pos o5,hmd]
    refine hVal.holds.useT [] [] rfl (sk) (sk) fun e0 H0 hq=>?_
    obtain⟨rfl,rfl⟩:=hq
    refine⟨rfl,_,⟨6,(2,isO l)::(1,fmO es)::(0,ckO ds (a:Nat) 2 l.length)::[(5,rfO x),(4,cnO (.mk op n rel val r st ar)),(3,dcO ⟨dk,dn,dnm,dpl,drs,dcs⟩)]⟩,rfl,rfl,?_⟩
    (first | refine brLt (fun w1=>?_) (fun w1=>?_) | refine brLe (fun w1=>?_) (fun w1=>?_) | refine brEq (fun w1=>?_) (fun w1=>?_))
    ·have w1:kk≤st.getD m 0:=w1
     exact⟨[],[],[], .returned (.p (i64 8)),ckS ds a es l,rfl,sk,sk,retA (by rw [hR,hg,if_pos w1]),rfl⟩
    ·have w1:¬ kk≤st.getD m 0:=w1
     exact⟨[],[],[], .returned (.p (i64 0)),ckS ds a es l,rfl,sk,sk,retA (by rw [hR,hg,if_neg w1]),rfl⟩
   have o5:¬ op=5:=o5
   (first | refine brLt (fun p6=>?_) (fun p6=>?_) | refine brLe (fun p6=>?_) (fun p6=>?_) | refine brEq (fun p6=>?_) (fun p6=>?_))
   ·have p6:op=6:=p6
    have hg:gstI op n val st=val:=by rw [gstI,if_neg o5,if_pos p6]
    refine hVal.holds.useT [] [] rfl (sk) (sk) fun e0 H0 hq=>?_
    obtain⟨rfl,rfl⟩:=hq
    refine⟨rfl,_,⟨6,(2,isO l)::(1,fmO es)::(0,ckO ds (a:Nat) 2 l.length)::[(5,rfO x),(4,cnO (.mk op n rel val r st ar)),(3,dcO ⟨dk,dn,dnm,dpl,drs,dcs⟩)]⟩,rfl,rfl,?_⟩
    (first | refine brLt (fun w1=>?_) (fun w1=>?_) | refine brLe (fun w1=>?_) (fun w1=>?_) | refine brEq (fun w1=>?_) (fun w1=>?_))
    ·have w1:kk≤val:=w1
     exact⟨[],[],[], .returned (.p (i64 8)),ckS ds a es l,rfl,sk,sk,retA (by rw [hR,hg,if_pos w1]),rfl⟩
    ·have w1:¬ kk≤val:=w1
     exact⟨[],[],[], .returned (.p (i64 0)),ckS ds a es l,rfl,sk,sk,retA (by rw [hR,hg,if_neg w1]),rfl⟩
   have p6:¬ op=6:=p6
   have hg:gstI op n val st=n:=by rw [gstI,if_neg o5,if_neg p6]
   refine hVal.holds.useT [] [] rfl (sk) (sk) fun e0 H0 hq=>?_
   obtain⟨rfl,rfl⟩:=hq
   refine⟨rfl,_,⟨6,(2,isO l)::(1,fmO es)::(0,ckO ds (a:Nat) 2 l.length)::[(5,rfO x),(4,cnO (.mk op n rel val r st ar)),(3,dcO ⟨dk,dn,dnm,dpl,drs,dcs⟩)]⟩,rfl,rfl,?_⟩
   (first | refine brLt (fun w1=>?_) (fun w1=>?_) | refine brLe (fun w1=>?_) (fun w1=>?_) | refine brEq (fun w1=>?_) (fun w1=>?_))
   ·have w1:kk≤n:=w1
    exact⟨[],[],[], .returned (.p (i64 8)),ckS ds a es l,rfl,sk,sk,retA (by rw [hR,hg,if_pos w1]),rfl⟩
   ·have w1:¬ kk≤n:=w1
    exact⟨[],[],[], .returned (.p (i64 0)),ckS ds a es l,rfl,sk,sk,retA (by rw [hR,hg,if_neg w1]),rfl⟩
  have md:¬ r.mode=3:=md
  rw [if_neg (fun h=>md h.1)] at hR
  (first | refine brLt (fun o5=>?_) (fun o5=>?_) | refine brLe (fun o5=>?_) (fun o5=>?_) | refine brEq (fun o5=>?_) (fun o5=>?_))
  ·have o5:op=5:=o5
   obtain⟨m,hm⟩:∃ m:Nat,st.length=m+1:=⟨st.length - 1,by have:=hst o5;omega⟩
   have hm1:((st.map i64).length:Int) - 1=(m:Nat):=by rw [List.length_map];omega
   have hmd:st.length - 1=m:=by omega
   refine⟨((m:Nat):Int),by show _=IntKind.i64.wrap (((st.map i64).length:Nat) - 1:Int);rw [hm1];exact wrap_i64 (by omega) (by omega),?_⟩
   refine⟨_,⟨by omega,i64 (st.getD m 0),icell (by omega),rfl⟩,?_⟩
   have hg:gstI op n val st=st.getD m 0:=by rw [gstI,if_pos o5,hmd]
   refine hVal.holds.useT [] [] rfl (sk) (sk) fun e0 H0 hq=>?_
   obtain⟨rfl,rfl⟩:=hq
   refine⟨rfl,_,⟨6,(2,isO l)::(1,fmO es)::(0,ckO ds (a:Nat) 2 l.length)::[(5,rfO x),(4,cnO (.mk op n rel val r st ar)),(3,dcO ⟨dk,dn,dnm,dpl,drs,dcs⟩)]⟩,rfl,rfl,?_⟩
   (first | refine brLt (fun w1=>?_) (fun w1=>?_) | refine brLe (fun w1=>?_) (fun w1=>?_) | refine brEq (fun w1=>?_) (fun w1=>?_))
   ·have w1:kk≤st.getD m 0:=w1
    exact⟨[],[],[], .returned (.p (i64 8)),ckS ds a es l,rfl,sk,sk,retA (by rw [hR,hg,if_pos w1]),rfl⟩
   ·have w1:¬ kk≤st.getD m 0:=w1
    exact⟨[],[],[], .returned (.p (i64 0)),ckS ds a es l,rfl,sk,sk,retA (by rw [hR,hg,if_neg w1]),rfl⟩
  have o5:¬ op=5:=o5
  (first | refine brLt (fun p6=>?_) (fun p6=>?_) | refine brLe (fun p6=>?_) (fun p6=>?_) | refine brEq (fun p6=>?_) (fun p6=>?_))
  ·have p6:op=6:=p6
   have hg:gstI op n val st=val:=by rw [gstI,if_neg o5,if_pos p6]
   refine hVal.holds.useT [] [] rfl (sk) (sk) fun e0 H0 hq=>?_
   obtain⟨rfl,rfl⟩:=hq
   refine⟨rfl,_,⟨6,(2,isO l)::(1,fmO es)::(0,ckO ds (a:Nat) 2 l.length)::[(5,rfO x),(4,cnO (.mk op n rel val r st ar)),(3,dcO ⟨dk,dn,dnm,dpl,drs,dcs⟩)]⟩,rfl,rfl,?_⟩
   (first | refine brLt (fun w1=>?_) (fun w1=>?_) | refine brLe (fun w1=>?_) (fun w1=>?_) | refine brEq (fun w1=>?_) (fun w1=>?_))
   ·have w1:kk≤val:=w1
    exact⟨[],[],[], .returned (.p (i64 8)),ckS ds a es l,rfl,sk,sk,retA (by rw [hR,hg,if_pos w1]),rfl⟩
   ·have w1:¬ kk≤val:=w1
    exact⟨[],[],[], .returned (.p (i64 0)),ckS ds a es l,rfl,sk,sk,retA (by rw [hR,hg,if_neg w1]),rfl⟩
  have p6:¬ op=6:=p6
  have hg:gstI op n val st=n:=by rw [gstI,if_neg o5,if_neg p6]
  refine hVal.holds.useT [] [] rfl (sk) (sk) fun e0 H0 hq=>?_
  obtain⟨rfl,rfl⟩:=hq
  refine⟨rfl,_,⟨6,(2,isO l)::(1,fmO es)::(0,ckO ds (a:Nat) 2 l.length)::[(5,rfO x),(4,cnO (.mk op n rel val r st ar)),(3,dcO ⟨dk,dn,dnm,dpl,drs,dcs⟩)]⟩,rfl,rfl,?_⟩
  (first | refine brLt (fun w1=>?_) (fun w1=>?_) | refine brLe (fun w1=>?_) (fun w1=>?_) | refine brEq (fun w1=>?_) (fun w1=>?_))
  ·have w1:kk≤n:=w1
   exact⟨[],[],[], .returned (.p (i64 8)),ckS ds a es l,rfl,sk,sk,retA (by rw [hR,hg,if_pos w1]),rfl⟩
  ·have w1:¬ kk≤n:=w1
   exact⟨[],[],[], .returned (.p (i64 0)),ckS ds a es l,rfl,sk,sk,retA (by rw [hR,hg,if_neg w1]),rfl⟩
def nQ (ds:List De) (a:Nat) (es:List (List UInt8 × PV)) (l:List Iss) (e:AE) (H':Hp):Prop:=e=.returned und∧H'=ckT ds a es l
abbrev otN6:OT:=(.pure 0 (.pure 1 (.pure 2 (.pure 3 (.pure 4 (.pure 5 (.pure 6 (.eff 7 [] (.pure 8 (.pure 9 (.eff 10 [] .fin .nil))) .nil))))))))
theorem note1_h (ds:List De) (a:Nat) (es:List (List UInt8 × PV)) (l:List Iss) (k:Int) (nm:List UInt8) (hl:l.length≤100000):HoldsG cx 48 [.ptr 0 0 0, .p (i64 k), .p (.lst [.str nm])] (ckS ds a es l) (nQ ds a es (l++[⟨k,a,nm⟩])):=by
 refine holdsN_of_vc Tryz.func48 rfl rfl rfl ?_
 refine⟨Nat,fun i=>[(0, .ptr 0 0 0),(6, .ptr 3 0 0),(15, .p (.lst [.str nm])),(16, .p (i64 1)),(17, .p (i64 i))],fun i=>⟨4,[(3,⟨TIss,false, .bx [.p (i64 k), .p (i64 (a:Nat)), .p (.str (if i=0 then [] else nm))]⟩),(2,isO l),(1,fmO es),(0,ckO ds (a:Nat) 2 l.length)]⟩,fun i=>i≤1,fun i=>1 - i,?_,?_⟩
 ·exact⟨0,by omega,ent_of [] [] [] rfl (sk) (sk) rfl⟩
 intro i hi
 (first | refine brLt (fun h1=>?_) (fun h1=>?_) | refine brLe (fun h1=>?_) (fun h1=>?_) | refine brEq (fun h1=>?_) (fun h1=>?_))
 ·have h1:(i:Int)<1:=h1
  obtain rfl:i=0:=by omega
  refine⟨_,⟨by omega, .str nm,rfl,rfl⟩,?_⟩
  refine⟨_,wrap_i64 (by omega) (by omega),?_⟩
  exact⟨1,by omega,ent_of [] [] [] rfl (sk) (sk) rfl,by decide⟩
 ·have h1:¬ (i:Int)<1:=h1
  obtain rfl:i=1:=by omega
  refine vdraw_ot otN6 (by kernel_rfl) ?_
  refine⟨by show 0+l.length≤(l.map Iss.cells).length;simp,l.map Iss.cells,takeAll (by simp),by show(l.length+1) * 32≤140737488355328;omega,(l++[(Iss.mk k (a:Nat) nm)]).map Iss.cells,by rw [List.map_append];rfl,?_⟩
  exact⟨[],[(3,4)],[], .returned und,ckT ds a es (l++[(Iss.mk k (a:Nat) nm)]),rfl,sk,⟨⟨_,rfl,rfl,rfl,rfl⟩,⟨_,rfl,rfl,rfl,rfl⟩,⟨_,rfl,rfl,rfl,_,rfl,_,_,rfl,rfl,_,_,rfl,rfl,_,_,rfl,sk,_,_,rfl,congrArg (fun k:Nat=>AV.sl 4 3 0 k) (snoc_len l (Iss.mk k (a:Nat) nm)).symm,rfl⟩,trivial⟩,rfl,rfl⟩
theorem note0_h (ds:List De) (a:Nat) (es:List (List UInt8 × PV)) (l:List Iss) (k:Int) (hl:l.length≤100000):HoldsG cx 48 [.ptr 0 0 0, .p (i64 k), .p .nils] (ckS ds a es l) (nQ ds a es (l++[⟨k,a,[]⟩])):=by
 refine holdsN_of_vc Tryz.func48 rfl rfl rfl ?_
 refine⟨Unit,fun _=>[(0, .ptr 0 0 0),(6, .ptr 3 0 0),(15, .p .nils),(16, .p (i64 0)),(17, .p (i64 0))],fun _=>⟨4,[(3,⟨TIss,false, .bx [.p (i64 k), .p (i64 (a:Nat)), .p (.str [])]⟩),(2,isO l),(1,fmO es),(0,ckO ds (a:Nat) 2 l.length)]⟩,fun _=>True,fun _=>0,?_,?_⟩
 ·exact⟨(),trivial,ent_of [] [] [] rfl (sk) (sk) rfl⟩
 intro _ _
 refine And.intro (fun h=>absurd (show(0:Int)<0 from h) (by decide)) (fun _=>?_)
 refine vdraw_ot otN6 (by kernel_rfl) ?_
 refine⟨by show 0+l.length≤(l.map Iss.cells).length;simp,l.map Iss.cells,takeAll (by simp),by show(l.length+1) * 32≤140737488355328;omega,(l++[(Iss.mk k (a:Nat) [])]).map Iss.cells,by rw [List.map_append];rfl,?_⟩
 exact⟨[],[(3,4)],[], .returned und,ckT ds a es (l++[(Iss.mk k (a:Nat) [])]),rfl,sk,⟨⟨_,rfl,rfl,rfl,rfl⟩,⟨_,rfl,rfl,rfl,rfl⟩,⟨_,rfl,rfl,rfl,_,rfl,_,_,rfl,rfl,_,_,rfl,rfl,_,_,rfl,sk,_,_,rfl,congrArg (fun k:Nat=>AV.sl 4 3 0 k) (snoc_len l (Iss.mk k (a:Nat) [])).symm,rfl⟩,trivial⟩,rfl,rfl⟩
def sfO (nm:List UInt8):AObj:=⟨TStr,true, .pu [.str nm]⟩
theorem twice_h {ds:List De} {a:Nat} {es:List (List UInt8 × PV)} (l:List Iss) (h:CkS ds a es) (d:De) (hn:d.name ≠ []) (hl:l.length≤100000):HoldsG cx 81 [.ptr 0 0 0, .p (.str d.name)] (ckS ds a es l) (nQ ds a es (l++twiceI (ds.take a) d)):=by
 have hf:=h.look d.name hn
 have hal:(ds.take a).length=a:=by rw [List.length_take];have:=h.le;omega
 cases hi:fstI (ds.take a) d.name with
 | none=>
  rw [hi] at hf
  have ht:twiceI (ds.take a) d=[]:=by rw [twiceI,hi];rfl
  rw [ht,List.append_nil]
  refine holdsN_of_vc Tryz.func81 rfl rfl rfl ?_
  refine⟨_, .inr ⟨hf,rfl⟩,?_⟩
  exact⟨[],[(3,2)],[], .returned und,ckT ds a es l,rfl,sk,sk,rfl,rfl⟩
 | some i=>
  rw [hi] at hf
  have ht:twiceI (ds.take a) d=[⟨2,a,d.name⟩]:=by rw [twiceI,hi,hal];rfl
  rw [ht]
  generalize d.name=nm at hf
  refine holdsN_of_vc Tryz.func81 rfl rfl rfl ?_
  refine⟨_, .inl ⟨_,hf,rfl⟩,?_⟩
  refine(note1_h ds a es (l) 2 nm (by first | omega | (simp only [List.length_append,List.length_cons,List.length_nil];omega))).holds.useT [3] [] rfl (sk) ⟨_,_,rfl,⟨rfl,rfl⟩,_,_,rfl,rfl,_,_,rfl,⟨_,rfl,by show 0+1≤1;decide,rfl⟩,rfl⟩ fun e0 H0 hq=>?_
  obtain⟨rfl,rfl⟩:=hq
  refine⟨rfl,_,⟨5,(4,isO ((l)++[Iss.mk 2 (a:Nat) nm]))::(1,fmO es)::(0,ckO ds (a:Nat) 4 ((l)++[Iss.mk 2 (a:Nat) nm]).length)::[(3,sfO nm)]⟩,rfl,rfl,?_⟩
  exact⟨[],[(3,4)],[], .returned und,ckT ds a es (l++[⟨2,a,nm⟩]),rfl,sk,sk,rfl,rfl⟩
theorem CkS.tk {ds:List De} {a:Nat} {es:List (List UInt8 × PV)} (h:CkS ds a es):(ds.take a).length=a:=by rw [List.length_take];have:=h.le;omega
theorem card_h {ds:List De} {a:Nat} {es:List (List UInt8 × PV)} (l:List Iss) (h:CkS ds a es) (d:De) (hl:l.length≤100000):HoldsG cx 82 [.ptr 0 0 0, .p d.pv] (ckS ds a es l) (nQ ds a es (l++cardI (ds.take a) d)):=by
 obtain⟨R,hR⟩:∃ R,R=l++cardI (ds.take a) d:=⟨_,rfl⟩
 rw [← hR]
 rw [cardI,h.tk] at hR
 obtain⟨dk,dn,dnm,dpl,drs,dcs⟩:=d
 simp only [] at hR
 refine holdsN_of_vc Tryz.func82 rfl rfl rfl ?_
 (first | refine brLt (fun h1=>?_) (fun h1=>?_) | refine brLe (fun h1=>?_) (fun h1=>?_) | refine brEq (fun h1=>?_) (fun h1=>?_))
 ·have h1:dn<2:=h1
  rw [if_pos (.inl h1)] at hR
  refine(note1_h ds a es (l) 6 dnm (by first | omega | (simp only [List.length_append,List.length_cons,List.length_nil];omega))).holds.useT [4] [] rfl (sk) ⟨_,_,rfl,⟨rfl,rfl⟩,_,_,rfl,rfl,_,_,rfl,⟨_,rfl,by show 0+1≤1;decide,rfl⟩,rfl⟩ fun e0 H0 hq=>?_
  obtain⟨rfl,rfl⟩:=hq
  refine⟨rfl,_,⟨6,(5,isO ((l)++[Iss.mk 6 (a:Nat) dnm]))::(1,fmO es)::(0,ckO ds (a:Nat) 5 ((l)++[Iss.mk 6 (a:Nat) dnm]).length)::[(4,sfO dnm),(3,dcO ⟨dk,dn,dnm,dpl,drs,dcs⟩)]⟩,rfl,rfl,?_⟩
  exact⟨[],[(3,5)],[], .returned und,ckT ds a es (l++[Iss.mk 6 (a:Nat) dnm]),rfl,sk,sk,rfl,by rw [hR]⟩
 have h1:¬ dn<2:=h1
 (first | refine brLt (fun h2=>?_) (fun h2=>?_) | refine brLe (fun h2=>?_) (fun h2=>?_) | refine brEq (fun h2=>?_) (fun h2=>?_))
 ·have h2:4<dn:=h2
  rw [if_pos (.inr h2)] at hR
  refine(note1_h ds a es (l) 6 dnm (by first | omega | (simp only [List.length_append,List.length_cons,List.length_nil];omega))).holds.useT [4] [] rfl (sk) ⟨_,_,rfl,⟨rfl,rfl⟩,_,_,rfl,rfl,_,_,rfl,⟨_,rfl,by show 0+1≤1;decide,rfl⟩,rfl⟩ fun e0 H0 hq=>?_
  obtain⟨rfl,rfl⟩:=hq
  refine⟨rfl,_,⟨6,(5,isO ((l)++[Iss.mk 6 (a:Nat) dnm]))::(1,fmO es)::(0,ckO ds (a:Nat) 5 ((l)++[Iss.mk 6 (a:Nat) dnm]).length)::[(4,sfO dnm),(3,dcO ⟨dk,dn,dnm,dpl,drs,dcs⟩)]⟩,rfl,rfl,?_⟩
  exact⟨[],[(3,5)],[], .returned und,ckT ds a es (l++[Iss.mk 6 (a:Nat) dnm]),rfl,sk,sk,rfl,by rw [hR]⟩
 ·have h2:¬ 4<dn:=h2
  rw [if_neg (by omega),List.append_nil] at hR
  exact⟨[],[(3,2)],[], .returned und,ckT ds a es (l),rfl,sk,sk,rfl,by rw [hR]⟩
abbrev otIx:OT:=(.pure 0 (.pure 1 (.pure 2 (.pure 3 (.pure 4 (.pure 5 .fin))))))
theorem rindex_c (l:List Rf) (r:Rf) (hl:l.length≤9223372036854775807):Pure cx 109 [rfl_ l,r.pv] (·=.ret [.bool (decide (r∈l))]):=by
 have hI:Pure cx 140 [rfl_ l,r.pv] fun e=>∃ n:Int,e=.ret [i64 n]∧(0≤n ↔ r∈l):=by
  obtain⟨rn,rm,rp,ri⟩:=r
  refine pure_of_vc Tryz.func140 rfl rfl rfl ?_
  refine⟨Nat,fun k=>[(0, .p (rfl_ l)),(3, .ptr 0 0 0),(7, .p (i64 l.length)),(8, .p (i64 k))],fun _=>⟨1,[(0,rfO ⟨rn,rm,rp,ri⟩)]⟩,fun k=>k≤l.length∧∀ x∈l.take k,x ≠ ⟨rn,rm,rp,ri⟩,fun k=>l.length - k,?_,?_⟩
  ·exact⟨0,⟨Nat.zero_le _,by simp⟩,ent_of [] [] [] rfl ⟨rfl,⟨rfl,rfl⟩,congrArg (fun n:Nat=>i64 n) (List.length_map ..).symm,rfl,trivial⟩ (sk) rfl⟩
  rintro k ⟨k1,k2⟩
  (first | refine brLt (fun m1=>?_) (fun m1=>?_) | refine brLe (fun m1=>?_) (fun m1=>?_) | refine brEq (fun m1=>?_) (fun m1=>?_))
  rotate_left
  ·have m1:¬ (k:Int)<(l.length:Nat):=m1
   rw [take_all (by omega)] at k2
   exact end1 _ rfl rfl ⟨-1,rfl,⟨fun h=>absurd h (by decide),fun h=>absurd rfl (k2 _ h)⟩⟩
  have m1:(k:Int)<(l.length:Nat):=m1
  have hk:k<l.length:=by omega
  have hcell:=rcell hk
  have hmem:=getD_memL rf0 hk
  have hnx:∀ x∈l.take (k+1),x=l.getD k rf0∨x∈l.take k:=fun x hx=>by
   rw [take_succ_getD rf0 hk] at hx
   rcases List.mem_append.1 hx with hx | hx
   ·exact .inr hx
   ·exact .inl (List.mem_singleton.1 hx)
  generalize l.getD k rf0=x at hcell hmem hnx
  refine vdraw_ot otIx (by kernel_rfl) ?_
  refine⟨_,⟨by omega,x.cells,hcell,rfl⟩,?_⟩
  refine⟨⟨by kernel_rfl,by kernel_rfl⟩,fun e1=>?_,fun e1=>?_⟩
  ·have e1:⟨rn,rm,rp,ri⟩=x:=rf_ext (by first | exact e1 | (injection e1))
   exact end1 _ rfl rfl ⟨(k:Nat),rfl,⟨fun _=>by rw [e1];exact hmem,fun _=>by omega⟩⟩
  ·have e1:¬ x=⟨rn,rm,rp,ri⟩:=fun e=>e1 (by rw [e])
   refine⟨_,wrap_i64 (by omega) (by omega),?_⟩
   refine⟨k+1,⟨by omega,fun y hy=>?_⟩,ent_of [] [] [] rfl (sk) (sk) rfl,by show l.length - (k+1)<l.length - k;omega⟩
   rcases hnx y hy with rfl | hy
   ·exact e1
   ·exact k2 y hy
 obtain⟨rn,rm,rp,ri⟩:=r
 refine pure_of_vc Tryz.func109 rfl rfl rfl ?_
 refine hI.at fun e he=>?_
 obtain⟨n,rfl,hn⟩:=he
 (first | refine brLt (fun g=>?_) (fun g=>?_) | refine brLe (fun g=>?_) (fun g=>?_) | refine brEq (fun g=>?_) (fun g=>?_))
 ·have g:(0:Int)≤n:=g
  exact end1 _ rfl rfl (retB (decide_eq_true (hn.1 g)).symm)
 ·have g:¬ (0:Int)≤n:=g
  exact end1 _ rfl rfl (retB (decide_eq_false fun h=>g (hn.2 h)).symm)
set_option maxHeartbeats 40000000
abbrev otR4:OT:=(.pure 0 (.pure 1 (.pure 2 (.pure 3 (.pure 4 (.eff 5 [] .fin .nil))))))
theorem ckrefs_h {ds:List De} {a:Nat} {es:List (List UInt8 × PV)} (l:List Iss) (h:CkS ds a es) (d:De) (hr:∀ r∈d.refs,r.name ≠ []) (hdr:d.refs.length≤100) (hl:l.length≤90000):HoldsG cx 83 [.ptr 0 0 0, .p d.pv] (ckS ds a es l) (nQ ds a es (l++refsI (ds.take a) d [] d.refs)):=by
 obtain⟨dk,dn,dnm,dpl,drs,dcs⟩:=d
 have hdr:drs.length≤100:=hdr
 have hr:∀ r∈drs,r.name ≠ []:=hr
 obtain⟨R,hR⟩:∃ R,R=l++refsI (ds.take a) ⟨dk,dn,dnm,dpl,drs,dcs⟩ [] drs:=⟨_,rfl⟩
 show HoldsG cx _ _ _ (nQ ds a es (l++refsI (ds.take a) ⟨dk,dn,dnm,dpl,drs,dcs⟩ [] drs))
 rw [← hR]
 refine holdsN_of_vc Tryz.func83 rfl rfl rfl ?_
 refine⟨Nat × List Iss,fun x=>[(0, .ptr 0 0 0),(3, .ptr 4 0 0),(8, .p (rfl_ drs)),(9, .p (i64 drs.length)),(10, .p (i64 x.1))],fun x=>⟨5,[(4,dcO ⟨dk,dn,dnm,dpl,drs,dcs⟩),(3,isO x.2),(1,fmO es),(0,ckO ds (a:Nat) 3 x.2.length)]⟩,fun x=>x.1≤drs.length∧x.2.length≤l.length+2 * x.1∧R=x.2++refsI (ds.take a) ⟨dk,dn,dnm,dpl,drs,dcs⟩ (drs.take x.1) (drs.drop x.1),fun x=>drs.length - x.1,?_,?_⟩
 ·exact⟨(0,l),⟨Nat.zero_le _,by simp,hR⟩,ent_of [] [(3,2),(4,3)] [] rfl ⟨⟨rfl,rfl⟩,⟨rfl,rfl⟩,rfl,congrArg (fun n:Nat=>i64 n) (List.length_map ..).symm,rfl,trivial⟩ (sk) rfl⟩
 rintro⟨k,cur⟩ ⟨k1,k2,k3⟩
 simp only [] at k1 k2 k3
 (first | refine brLt (fun m1=>?_) (fun m1=>?_) | refine brLe (fun m1=>?_) (fun m1=>?_) | refine brEq (fun m1=>?_) (fun m1=>?_))
 rotate_left
 ·have m1:¬ (k:Int)<(drs.length:Nat):=m1
  rw [List.drop_eq_nil_of_le (by omega),refsI,List.append_nil] at k3
  exact⟨[],[(3,3)],[], .returned und,ckT ds a es cur,rfl,sk,sk,rfl,by rw [k3]⟩
 have m1:(k:Int)<(drs.length:Nat):=m1
 have hk:k<drs.length:=by omega
 have hcell:=rcell hk
 have hxn:=hr _ (getD_memL rf0 hk)
 have hstep:refsI (ds.take a) ⟨dk,dn,dnm,dpl,drs,dcs⟩ (drs.take k) (drs.drop k)=(if drs.getD k rf0∈drs.take k then [⟨2,a,(drs.getD k rf0).name⟩] else [])++(noteI (refI (ds.take a) ⟨dk,dn,dnm,dpl,drs,dcs⟩ (drs.getD k rf0)) a (drs.getD k rf0).name++refsI (ds.take a) ⟨dk,dn,dnm,dpl,drs,dcs⟩ (drs.take (k+1)) (drs.drop (k+1))):=by
  rw [dropD rf0 hk,refsI,h.tk,take_succ_getD rf0 hk]
 generalize drs.getD k rf0=x at hcell hxn hstep
 have hC:=rindex_c (drs.take k) x (by rw [List.length_take];omega)
 have ea:[rfl_ (drs.take k),x.pv]=[PV.lsts 4 ((drs.map Rf.cells).take ((k:Nat):Int).toNat),x.pv]:=by show [PV.lsts 4 ((drs.take k).map Rf.cells),x.pv]=_;rw [List.map_take];rfl
 rw [ea] at hC
 refine⟨_,⟨by omega,x.cells,hcell,rfl⟩,?_⟩
 refine vdraw_ot otR4 (by kernel_rfl) ?_
 refine⟨by show(0:Int)≤(k:Nat)∧((k:Nat):Int)≤((drs.map Rf.cells).length:Nat);rw [List.length_map];omega,?_⟩
 by_cases hm:x∈drs.take k
 ·rw [decide_eq_true hm] at hC
  rw [if_pos hm] at hstep
  refine hC.eq rfl ?_
  refine(note1_h ds a es (cur) 2 x.name (by first | omega | (simp only [List.length_append,List.length_cons,List.length_nil];omega))).holds.useT [6] [(2,3)] rfl (sk) ⟨_,_,rfl,⟨rfl,rfl⟩,_,_,rfl,rfl,_,_,rfl,⟨_,rfl,by show 0+1≤1;decide,rfl⟩,rfl⟩ fun e0 H0 hq=>?_
  obtain⟨rfl,rfl⟩:=hq
  refine⟨rfl,_,⟨8,(7,isO ((cur)++[Iss.mk 2 (a:Nat) x.name]))::(1,fmO es)::(0,ckO ds (a:Nat) 7 ((cur)++[Iss.mk 2 (a:Nat) x.name]).length)::[(6,sfO x.name),(5,rfO x),(4,dcO ⟨dk,dn,dnm,dpl,drs,dcs⟩)]⟩,rfl,rfl,?_⟩
  refine(reference_h (cur++[Iss.mk 2 (a:Nat) x.name]) h ⟨dk,dn,dnm,dpl,drs,dcs⟩ hxn).holds.useT [] [(2,7)] rfl (sk) (sk) fun e0 H0 hq=>?_
  obtain⟨rfl,rfl⟩:=hq
  refine⟨rfl,_,⟨8,(7,isO (cur++[Iss.mk 2 (a:Nat) x.name]))::(1,fmO es)::(0,ckO ds (a:Nat) 7 (cur++[Iss.mk 2 (a:Nat) x.name]).length)::[(6,sfO x.name),(5,rfO x),(4,dcO ⟨dk,dn,dnm,dpl,drs,dcs⟩)]⟩,rfl,rfl,?_⟩
  refine And.intro (fun z=>?_) (fun z=>?_)
  ·have z:refI (ds.take a) ⟨dk,dn,dnm,dpl,drs,dcs⟩ x=0:=z
   rw [z] at hstep
   refine⟨((k+1:Nat):Int),by rw [Int.natCast_add];exact wrap_i64 (by omega) (by omega),?_⟩
   exact⟨(k+1,cur++[Iss.mk 2 (a:Nat) x.name]),⟨by show k+1≤drs.length;omega,by show(cur++[Iss.mk 2 (a:Nat) x.name]).length≤l.length+2 * (k+1);(first | omega | (simp only [List.length_append,List.length_cons,List.length_nil];omega)),by rw [k3];rw [hstep,List.append_assoc];rfl⟩,ent_of [] [(3,7),(4,4)] [] rfl (sk) (sk) rfl,by show drs.length - (k+1)<drs.length - k;omega⟩
  ·have z:¬ refI (ds.take a) ⟨dk,dn,dnm,dpl,drs,dcs⟩ x=0:=z
   rw [noteI,if_neg z] at hstep
   generalize refI (ds.take a) ⟨dk,dn,dnm,dpl,drs,dcs⟩ x=kk at hstep
   refine(note1_h ds a es (cur++[Iss.mk 2 (a:Nat) x.name]) kk x.name (by first | omega | (simp only [List.length_append,List.length_cons,List.length_nil];omega))).holds.useT [8] [(2,7)] rfl (sk) ⟨_,_,rfl,⟨rfl,rfl⟩,_,_,rfl,rfl,_,_,rfl,⟨_,rfl,by show 0+1≤1;decide,rfl⟩,rfl⟩ fun e0 H0 hq=>?_
   obtain⟨rfl,rfl⟩:=hq
   refine⟨rfl,_,⟨10,(9,isO ((cur++[Iss.mk 2 (a:Nat) x.name])++[Iss.mk kk (a:Nat) x.name]))::(1,fmO es)::(0,ckO ds (a:Nat) 9 ((cur++[Iss.mk 2 (a:Nat) x.name])++[Iss.mk kk (a:Nat) x.name]).length)::((8,sfO x.name)::[(6,sfO x.name),(5,rfO x),(4,dcO ⟨dk,dn,dnm,dpl,drs,dcs⟩)])⟩,rfl,rfl,?_⟩
   refine⟨((k+1:Nat):Int),by rw [Int.natCast_add];exact wrap_i64 (by omega) (by omega),?_⟩
   exact⟨(k+1,(cur++[Iss.mk 2 (a:Nat) x.name])++[Iss.mk kk (a:Nat) x.name]),⟨by show k+1≤drs.length;omega,by show((cur++[Iss.mk 2 (a:Nat) x.name])++[Iss.mk kk (a:Nat) x.name]).length≤l.length+2 * (k+1);(first | omega | (simp only [List.length_append,List.length_cons,List.length_nil];omega)),by rw [k3];rw [hstep];simp [List.append_assoc]⟩,ent_of [] [(3,9),(4,4)] [] rfl (sk) (sk) rfl,by show drs.length - (k+1)<drs.length - k;omega⟩
 ·rw [decide_eq_false hm] at hC
  rw [if_neg hm] at hstep
  refine hC.eq rfl ?_
  refine(reference_h (cur) h ⟨dk,dn,dnm,dpl,drs,dcs⟩ hxn).holds.useT [] [(2,3)] rfl (sk) (sk) fun e0 H0 hq=>?_
  obtain⟨rfl,rfl⟩:=hq
  refine⟨rfl,_,⟨6,(3,isO (cur))::(1,fmO es)::(0,ckO ds (a:Nat) 3 (cur).length)::[(5,rfO x),(4,dcO ⟨dk,dn,dnm,dpl,drs,dcs⟩)]⟩,rfl,rfl,?_⟩
  refine And.intro (fun z=>?_) (fun z=>?_)
  ·have z:refI (ds.take a) ⟨dk,dn,dnm,dpl,drs,dcs⟩ x=0:=z
   rw [z] at hstep
   refine⟨((k+1:Nat):Int),by rw [Int.natCast_add];exact wrap_i64 (by omega) (by omega),?_⟩
   exact⟨(k+1,cur),⟨by show k+1≤drs.length;omega,by show(cur).length≤l.length+2 * (k+1);(first | omega | (simp only [List.length_append,List.length_cons,List.length_nil];omega)),by rw [k3];rw [hstep];rfl⟩,ent_of [] [(3,3),(4,4)] [] rfl (sk) (sk) rfl,by show drs.length - (k+1)<drs.length - k;omega⟩
  ·have z:¬ refI (ds.take a) ⟨dk,dn,dnm,dpl,drs,dcs⟩ x=0:=z
   rw [noteI,if_neg z] at hstep
   generalize refI (ds.take a) ⟨dk,dn,dnm,dpl,drs,dcs⟩ x=kk at hstep
   refine(note1_h ds a es (cur) kk x.name (by first | omega | (simp only [List.length_append,List.length_cons,List.length_nil];omega))).holds.useT [6] [(2,3)] rfl (sk) ⟨_,_,rfl,⟨rfl,rfl⟩,_,_,rfl,rfl,_,_,rfl,⟨_,rfl,by show 0+1≤1;decide,rfl⟩,rfl⟩ fun e0 H0 hq=>?_
   obtain⟨rfl,rfl⟩:=hq
   refine⟨rfl,_,⟨8,(7,isO ((cur)++[Iss.mk kk (a:Nat) x.name]))::(1,fmO es)::(0,ckO ds (a:Nat) 7 ((cur)++[Iss.mk kk (a:Nat) x.name]).length)::((6,sfO x.name)::[(5,rfO x),(4,dcO ⟨dk,dn,dnm,dpl,drs,dcs⟩)])⟩,rfl,rfl,?_⟩
   refine⟨((k+1:Nat):Int),by rw [Int.natCast_add];exact wrap_i64 (by omega) (by omega),?_⟩
   exact⟨(k+1,(cur)++[Iss.mk kk (a:Nat) x.name]),⟨by show k+1≤drs.length;omega,by show((cur)++[Iss.mk kk (a:Nat) x.name]).length≤l.length+2 * (k+1);(first | omega | (simp only [List.length_append,List.length_cons,List.length_nil];omega)),by rw [k3];rw [hstep];simp [List.append_assoc]⟩,ent_of [] [(3,7),(4,4)] [] rfl (sk) (sk) rfl,by show drs.length - (k+1)<drs.length - k;omega⟩
theorem sum_snoc (l:List Int) (k:Nat) (h:k<l.length):(l.take (k+1)).sum=(l.take k).sum+l.getD k 0:=by
 rw [take_succ_getD 0 h,List.sum_append];simp
theorem row_c (nums:List Int) (n g:Int) (hw:∀ x∈nums,-9999≤x∧x≤9999) (hl:nums.length≤100):Pure cx 86 [ints nums,i64 n,i64 g] (·=.ret [.bool (nums.all (fun w=>decide (0≤w)) && (decide ((nums.length:Int)=n) && decide (nums.sum=g)))]):=by
 obtain⟨R,hR⟩:∃ R,R=(nums.all (fun w=>decide (0≤w)) && (decide ((nums.length:Int)=n) && decide (nums.sum=g))):=⟨_,rfl⟩
 rw [← hR]
 have hm:(nums.map i64).length=nums.length:=List.length_map ..
 refine pure_of_vc Tryz.func86 rfl rfl rfl ?_
 refine⟨Nat,fun k=>[(0, .p (ints nums)),(1, .p (i64 n)),(2, .p (i64 g)),(7, .p (i64 (nums.take k).sum)),(10, .p (ints nums)),(11, .p (i64 nums.length)),(12, .p (i64 k))],fun _=>⟨0,[]⟩,fun k=>k≤nums.length∧(∀ x∈nums.take k,0≤x)∧(nums.take k).sum≤9999 * k∧0≤(nums.take k).sum,fun k=>nums.length - k,?_,?_⟩
 ·exact⟨0,⟨Nat.zero_le _,by simp,by simp,by simp⟩,ent_of [] [] [] rfl ⟨rfl,rfl,rfl,rfl,rfl,congrArg (fun n:Nat=>i64 n) hm.symm,rfl,trivial⟩ trivial rfl⟩
 rintro k ⟨k1,k2,k3,k4⟩
 (first | refine brLt (fun m1=>?_) (fun m1=>?_) | refine brLe (fun m1=>?_) (fun m1=>?_) | refine brEq (fun m1=>?_) (fun m1=>?_))
 ·have m1:(k:Int)<(nums.length:Nat):=m1
  have hk:k<nums.length:=by omega
  have hc:=icell hk
  have hx:=hw _ (getD_memL 0 hk)
  have hs:=sum_snoc nums k hk
  have hmem:=getD_memL 0 hk
  have hnx:∀ y∈nums.take (k+1),y=nums.getD k 0∨y∈nums.take k:=fun y hy=>by
   rw [take_succ_getD 0 hk] at hy
   rcases List.mem_append.1 hy with hy | hy
   ·exact .inr hy
   ·exact .inl (List.mem_singleton.1 hy)
  generalize nums.getD k 0=x at hc hx hs hmem hnx
  refine⟨_,⟨by omega,i64 x,hc,rfl⟩,?_⟩
  (first | refine brLt (fun w1=>?_) (fun w1=>?_) | refine brLe (fun w1=>?_) (fun w1=>?_) | refine brEq (fun w1=>?_) (fun w1=>?_))
  ·have w1:x<0:=w1
   exact end1 _ rfl rfl (retB (by rw [hR,List.all_eq_false.2 ⟨x,hmem,by simp;omega⟩];rfl))
  have w1:¬ x<0:=w1
  refine⟨(nums.take (k+1)).sum,by rw [hs];exact wrap_i64 (by omega) (by omega),?_⟩
  refine⟨_,wrap_i64 (by omega) (by omega),?_⟩
  refine⟨k+1,⟨by omega,fun y hy=>?_,by rw [hs];omega,by rw [hs];omega⟩,ent_of [] [] [] rfl (sk) trivial rfl,by show nums.length - (k+1)<nums.length - k;omega⟩
  rcases hnx y hy with rfl | hy
  ·omega
  ·exact k2 y hy
 have m1:¬ (k:Int)<(nums.length:Nat):=m1
 rw [take_all (by omega)] at k2
 have ha:nums.all (fun w=>decide (0≤w))=true:=List.all_eq_true.2 fun x hx=>decide_eq_true (k2 x hx)
 rw [ha] at hR
 (first | refine brLt (fun e1=>?_) (fun e1=>?_) | refine brLe (fun e1=>?_) (fun e1=>?_) | refine brEq (fun e1=>?_) (fun e1=>?_))
 rotate_left
 ·have e1:¬ ((nums.map i64).length:Int)=n:=e1
  rw [hm] at e1
  exact end1 _ rfl rfl (retB (by rw [hR,decide_eq_false e1];rfl))
 have e1:((nums.map i64).length:Int)=n:=e1
 rw [hm] at e1
 rw [decide_eq_true e1] at hR
 (first | refine brLt (fun e2=>?_) (fun e2=>?_) | refine brLe (fun e2=>?_) (fun e2=>?_) | refine brEq (fun e2=>?_) (fun e2=>?_))
 ·have e2:(nums.take k).sum=g:=e2
  rw [take_all (by omega)] at e2
  exact end1 _ rfl rfl (retB (by rw [hR,decide_eq_true e2];rfl))
 ·have e2:¬ (nums.take k).sum=g:=e2
  rw [take_all (by omega)] at e2
  exact end1 _ rfl rfl (retB (by rw [hR,decide_eq_false e2];rfl))
def fnW:AV:=.fn (.func 111) [] [.ptr 5 0 0, .ptr 3 0 0, .ptr 4 0 0]
def cbO:AObj:=⟨84,false, .bx [.ptr 0 0 0]⟩
def fwO:AObj:=⟨194,false, .bx [fnW]⟩
abbrev wkS (ds:List De) (a:Nat) (es:List (List UInt8 × PV)) (d:De) (l:List Iss):Hp:=⟨6,[(5,fwO),(4,dcO d),(3,cbO),(2,isO l),(1,fmO es),(0,ckO ds (a:Nat) 2 l.length)]⟩
abbrev wkT (ds:List De) (a:Nat) (es:List (List UInt8 × PV)) (d:De) (l:List Iss):Hp:=⟨7,[(6,isO l),(5,fwO),(4,dcO d),(3,cbO),(1,fmO es),(0,ckO ds (a:Nat) 6 l.length)]⟩
def wQ (ds:List De) (a:Nat) (es:List (List UInt8 × PV)) (d:De) (l:List Iss) (e:AE) (H':Hp):Prop:=e=.returned und∧H'=wkT ds a es d l
mutual
def WkOK:Cd→Prop
 | .mk op _ _ _ r st ar=>((ar=[]→op=0∨(r.name ≠ []∧(op=5→1≤st.length)∧st.length≤100))∧(op=0→ar=[]))∧ar.length≤100∧WkOKs ar
def WkOKs:List Cd→Prop
 | []=>True
 | c::r=>WkOK c∧WkOKs r
end
theorem wkOKs_mem:∀ {l:List Cd} {c:Cd},WkOKs l→c∈l→WkOK c
 | [],_,_,h=>by cases h
 | x::l,c,hl,h=>by
  rw [WkOKs] at hl
  rcases List.mem_cons.1 h with rfl | h
  ·exact hl.1
  ·exact wkOKs_mem hl.2 h
theorem walk_h {ds:List De} {a:Nat} {es:List (List UInt8 × PV)} (h:CkS ds a es) (d:De) (hdr:d.refs.length≤100):∀ (m:Nat) (c:Cd) (l:List Iss),csz c≤m→WkOK c→(l++condI (ds.take a) d c).length≤100000 →
  HoldsG cx 111 [.p c.pv, .ptr 5 0 0, .ptr 3 0 0, .ptr 4 0 0] (wkS ds a es d l) (wQ ds a es d (l++condI (ds.take a) d c))
 | 0,c,_,hz,_,_=>by cases c;rw [csz] at hz;omega
 | m+1, .mk op n rel val r st ar,l,hz,hw,hl=>by
  have IH:=walk_h h d hdr m
  obtain⟨dk,dn,dnm,dpl,drs,dcs⟩:=d
  have hdr:drs.length≤100:=hdr
  rw [csz] at hz
  rw [WkOK] at hw
  obtain⟨⟨w1,_⟩,w2,w3⟩:=hw
  have hC1:ar ≠ []→condI (ds.take a) ⟨dk,dn,dnm,dpl,drs,dcs⟩ (.mk op n rel val r st ar)=condIs (ds.take a) ⟨dk,dn,dnm,dpl,drs,dcs⟩ ar:=fun hn=>by
   cases ar with
   | nil=>exact absurd rfl hn
   | cons x ar=>rw [condI,condIs]
  have hC0:ar=[]→condI (ds.take a) ⟨dk,dn,dnm,dpl,drs,dcs⟩ (.mk op n rel val r st ar)=if op=0 then [] else noteI (testI (ds.take a) ⟨dk,dn,dnm,dpl,drs,dcs⟩ op n val r st) a r.name:=fun hn=>by
   subst hn
   rw [condI,h.tk]
  obtain⟨R,hR⟩:∃ R,R=l++condI (ds.take a) ⟨dk,dn,dnm,dpl,drs,dcs⟩ (.mk op n rel val r st ar):=⟨_,rfl⟩
  rw [← hR] at hl ⊢
  have hcl:(cellsL ar).length=ar.length:=by rw [cellsL_map,List.length_map]
  refine holdsN_of_vc Tryz.func111 rfl rfl rfl ?_
  refine⟨Nat × List Iss,fun x=>[(1, .ptr 5 0 0),(2, .ptr 3 0 0),(3, .ptr 4 0 0),(4, .ptr 7 0 0),(9, .p (.lsts 10 (cellsL ar))),(10, .p (i64 ar.length)),(11, .p (i64 x.1))],fun x=>⟨8,[(7,cnO (.mk op n rel val r st ar)),(6,isO x.2),(5,fwO),(4,dcO ⟨dk,dn,dnm,dpl,drs,dcs⟩),(3,cbO),(1,fmO es),(0,ckO ds (a:Nat) 6 x.2.length)]⟩,fun x=>x.1≤ar.length∧x.2++condIs (ds.take a) ⟨dk,dn,dnm,dpl,drs,dcs⟩ (ar.drop x.1)=l++condIs (ds.take a) ⟨dk,dn,dnm,dpl,drs,dcs⟩ ar,fun x=>ar.length - x.1,?_,?_⟩
  ·exact⟨(0,l),⟨Nat.zero_le _,rfl⟩,ent_of [] [(6,2),(7,6)] [] rfl ⟨⟨rfl,rfl⟩,⟨rfl,rfl⟩,⟨rfl,rfl⟩,⟨rfl,rfl⟩,rfl,congrArg (fun n:Nat=>i64 n) hcl.symm,rfl,trivial⟩ (sk) rfl⟩
  rintro⟨k,cur⟩ ⟨k1,k2⟩
  simp only [] at k1 k2
  (first | refine brLt (fun m1=>?_) (fun m1=>?_) | refine brLe (fun m1=>?_) (fun m1=>?_) | refine brEq (fun m1=>?_) (fun m1=>?_))
  ·have m1:(k:Int)<(ar.length:Nat):=m1
   have hk:k<ar.length:=by omega
   have hne:ar ≠ []:=fun e=>by rw [e] at hk;cases hk
   have hcell:(cellsL ar)[k]?=some (ar.getD k cd0).cells:=by rw [cellsL_map];exact ccell hk
   have hmem:=getD_memL cd0 hk
   have hsz:=csz_mem hmem
   have hxw:=wkOKs_mem w3 hmem
   rw [dropD cd0 hk,condIs,← List.append_assoc] at k2
   have hlen:((cur++condI (ds.take a) ⟨dk,dn,dnm,dpl,drs,dcs⟩ (ar.getD k cd0))++condIs (ds.take a) ⟨dk,dn,dnm,dpl,drs,dcs⟩ (ar.drop (k+1))).length≤100000:=by rw [k2,← hC1 hne,← hR];exact hl
   rw [List.length_append] at hlen
   generalize ar.getD k cd0=x at hcell hsz hxw k2 hlen
   obtain⟨xo,xn,xr,xv,xf,xs,xa⟩:=x
   refine⟨_,⟨by omega,(Cd.mk xo xn xr xv xf xs xa).cells,hcell,rfl⟩,?_⟩
   refine(IH (.mk xo xn xr xv xf xs xa) cur (by omega) hxw (by omega)).holds.useT [] [(2,6)] rfl (sk) (sk) fun e0 H0 hq=>?_
   obtain⟨rfl,rfl⟩:=hq
   generalize cur++condI (ds.take a) ⟨dk,dn,dnm,dpl,drs,dcs⟩ (.mk xo xn xr xv xf xs xa)=nxt at k2 hlen ⊢
   refine⟨rfl,_,⟨10,(9,isO nxt)::(5,fwO)::(4,dcO ⟨dk,dn,dnm,dpl,drs,dcs⟩)::(3,cbO)::(1,fmO es)::(0,ckO ds (a:Nat) 9 nxt.length)::[(8,cnO (.mk xo xn xr xv xf xs xa)),(7,cnO (.mk op n rel val r st ar))]⟩,rfl,rfl,?_⟩
   refine⟨((k+1:Nat):Int),by rw [Int.natCast_add];exact wrap_i64 (by omega) (by omega),?_⟩
   exact⟨(k+1,nxt),⟨by show k+1≤ar.length;omega,k2⟩,ent_of [] [(6,9),(7,7)] [] rfl (sk) (sk) rfl,by show ar.length - (k+1)<ar.length - k;omega⟩
  have m1:¬ (k:Int)<(ar.length:Nat):=m1
  rw [List.drop_eq_nil_of_le (by omega),condIs,List.append_nil] at k2
  (first | refine brLt (fun o0=>?_) (fun o0=>?_) | refine brLe (fun o0=>?_) (fun o0=>?_) | refine brEq (fun o0=>?_) (fun o0=>?_))
  ·have o0:op=0:=o0
   have hRc:R=cur:=by
    by_cases hn:ar=[]
    ·rw [hR,hC0 hn,if_pos o0,k2,hn,condIs]
    ·rw [hR,hC1 hn,k2]
   exact⟨[],[(6,6)],[], .returned und,wkT ds a es ⟨dk,dn,dnm,dpl,drs,dcs⟩ (cur),rfl,sk,sk,rfl,by rw [hRc]⟩
  have o0:¬ op=0:=o0
  (first | refine brLt (fun g1=>?_) (fun g1=>?_) | refine brLe (fun g1=>?_) (fun g1=>?_) | refine brEq (fun g1=>?_) (fun g1=>?_))
  ·have g1:(0:Int)<((cellsL ar).length:Nat):=g1
   rw [hcl] at g1
   have hRc:R=cur:=by rw [hR,hC1 (fun e=>by rw [e] at g1;exact absurd g1 (by decide)),k2]
   exact⟨[],[(6,6)],[], .returned und,wkT ds a es ⟨dk,dn,dnm,dpl,drs,dcs⟩ (cur),rfl,sk,sk,rfl,by rw [hRc]⟩
  have g1:¬ (0:Int)<((cellsL ar).length:Nat):=g1
  rw [hcl] at g1
  have hn:ar=[]:=List.eq_nil_of_length_eq_zero (by omega)
  have hw:=(w1 hn).resolve_left o0
  rw [hn,condIs,List.append_nil] at k2
  rw [hC0 hn,if_neg o0,← k2] at hR
  have hcl2:cur.length≤100000:=by rw [hR,List.length_append] at hl;omega
  refine(cktest_h (op:=op) (n:=n) (rel:=rel) (val:=val) (r:=r) (st:=st) (ar:=ar) cur h ⟨dk,dn,dnm,dpl,drs,dcs⟩ hw.1 hw.2.1 hw.2.2 hdr).holds.useT [] [(2,6)] rfl (sk) (sk) fun e0 H0 hq=>?_
  obtain⟨rfl,rfl⟩:=hq
  generalize testI (ds.take a) ⟨dk,dn,dnm,dpl,drs,dcs⟩ op n val r st=kk at hR
  refine⟨rfl,_,⟨8,(6,isO cur)::(1,fmO es)::(0,ckO ds (a:Nat) 6 cur.length)::[(7,cnO (.mk op n rel val r st ar)),(5,fwO),(4,dcO ⟨dk,dn,dnm,dpl,drs,dcs⟩),(3,cbO)]⟩,rfl,rfl,?_⟩
  refine And.intro (fun z=>?_) (fun z=>?_)
  ·have z:kk=0:=z
   rw [noteI,if_pos z,List.append_nil] at hR
   exact⟨[],[(6,6)],[], .returned und,wkT ds a es ⟨dk,dn,dnm,dpl,drs,dcs⟩ (cur),rfl,sk,sk,rfl,by rw [hR]⟩
  ·have z:¬ kk=0:=z
   rw [noteI,if_neg z] at hR
   refine(note1_h ds a es (cur) kk r.name (by first | omega | (simp only [List.length_append,List.length_cons,List.length_nil];omega))).holds.useT [8] [(2,6)] rfl (sk) ⟨_,_,rfl,⟨rfl,rfl⟩,_,_,rfl,rfl,_,_,rfl,⟨_,rfl,by show 0+1≤1;decide,rfl⟩,rfl⟩ fun e0 H0 hq=>?_
   obtain⟨rfl,rfl⟩:=hq
   refine⟨rfl,_,⟨10,(9,isO ((cur)++[Iss.mk kk (a:Nat) r.name]))::(1,fmO es)::(0,ckO ds (a:Nat) 9 ((cur)++[Iss.mk kk (a:Nat) r.name]).length)::[(8,sfO r.name),(7,cnO (.mk op n rel val r st ar)),(5,fwO),(4,dcO ⟨dk,dn,dnm,dpl,drs,dcs⟩),(3,cbO)]⟩,rfl,rfl,?_⟩
   exact⟨[],[(6,9)],[], .returned und,wkT ds a es ⟨dk,dn,dnm,dpl,drs,dcs⟩ (cur++[Iss.mk kk (a:Nat) r.name]),rfl,sk,sk,rfl,by rw [hR]⟩
def smO (g:Int):AObj:=⟨TInt,false, .bx [.p (i64 g)]⟩
def kcO (c:Cs):AObj:=⟨TCase,false, .bx (c.cells.map .p)⟩
theorem rowI_node {d:De} {nums:List Int} {g:Int} (h:¬ d.kind=5):rowI d nums g=(nums.all (fun w=>decide (0≤w)) && (decide ((nums.length:Int)=d.n) && decide (nums.sum=g))):=by rw [rowI,if_neg h]
theorem rowI_gain {d:De} {nums:List Int} {g:Int} (h:d.kind=5):rowI d nums g=(decide (nums.length=1) && (decide (-100≤nums.getD 0 0) && decide (nums.getD 0 0≤100))):=by rw [rowI,if_pos h]
structure CaOK (c:Cs):Prop where
 cond:WkOK c.cond
 nums:∀ x∈c.nums,-9999≤x∧x≤9999
 len:c.nums.length≤100
def rwQ (d:De) (g:Int) (b:Bool) (e:AE) (H':Hp):Prop:=e=.returned (.p (.bool b))∧H'=⟨2,[(1,smO g),(0,dcO d)]⟩
theorem node1_h (d:De) (g:Int) (nums:List Int) (hw:∀ x∈nums,-9999≤x∧x≤9999) (hl:nums.length≤100) (hk:¬ d.kind=5):HoldsG cx 85 [.p (ints nums), .ptr 0 0 0, .ptr 1 0 0] ⟨2,[(1,smO g),(0,dcO d)]⟩ (rwQ d g (rowI d nums g)):=by
 have hr:=row_c nums d.n g hw hl
 rw [← rowI_node hk] at hr
 obtain⟨dk,dn,dnm,dpl,drs,dcs⟩:=d
 generalize rowI ⟨dk,dn,dnm,dpl,drs,dcs⟩ nums g=b at hr
 refine holdsN_of_vc Tryz.func85 rfl rfl rfl ?_
 refine hr.eq rfl ?_
 exact⟨[],[],[], .returned (.p (.bool b)),⟨2,[(1,smO g),(0,dcO ⟨dk,dn,dnm,dpl,drs,dcs⟩)]⟩,rfl,sk,sk,rfl,rfl⟩
theorem gain1_c (d:De) (g:Int) (nums:List Int) (hk:d.kind=5):Pure cx 87 [ints nums] (·=.ret [.bool (rowI d nums g)]):=by
 obtain⟨R,hR⟩:∃ R,R=rowI d nums g:=⟨_,rfl⟩
 rw [← hR]
 rw [rowI_gain hk] at hR
 have hm:(nums.map i64).length=nums.length:=List.length_map ..
 refine pure_of_vc Tryz.func87 rfl rfl rfl ?_
 (first | refine brLt (fun h1=>?_) (fun h1=>?_) | refine brLe (fun h1=>?_) (fun h1=>?_) | refine brEq (fun h1=>?_) (fun h1=>?_))
 rotate_left
 ·have h1:¬ ((nums.map i64).length:Int)=1:=h1
  rw [hm] at h1
  exact end1 _ rfl rfl (retB (by rw [hR,decide_eq_false (show ¬ nums.length=1 by omega)];rfl))
 have h1:((nums.map i64).length:Int)=1:=h1
 rw [hm] at h1
 rw [decide_eq_true (show nums.length=1 by omega)] at hR
 have hc:=icell (l:=nums) (k:=0) (by omega)
 generalize nums.getD 0 0=x at hc hR
 refine⟨_,⟨by decide,i64 x,hc,rfl⟩,?_⟩
 (first | refine brLt (fun h2=>?_) (fun h2=>?_) | refine brLe (fun h2=>?_) (fun h2=>?_) | refine brEq (fun h2=>?_) (fun h2=>?_))
 rotate_left
 ·have h2:¬ -100≤x:=h2
  exact end1 _ rfl rfl (retB (by rw [hR,decide_eq_false h2];rfl))
 have h2:-100≤x:=h2
 refine⟨_,⟨by decide,i64 x,hc,rfl⟩,?_⟩
 (first | refine brLt (fun h3=>?_) (fun h3=>?_) | refine brLe (fun h3=>?_) (fun h3=>?_) | refine brEq (fun h3=>?_) (fun h3=>?_))
 ·have h3:x≤100:=h3
  exact end1 _ rfl rfl (retB (by rw [hR,decide_eq_true h2,decide_eq_true h3];rfl))
 ·have h3:¬ x≤100:=h3
  exact end1 _ rfl rfl (retB (by rw [hR,decide_eq_true h2,decide_eq_false h3];rfl))
theorem casesI_step (L:List De) (d:De) (g:Int) (c:Cs) (cs:List Cs):casesI L d g (c::cs)=(condI L d c.cond++(if rowI d c.nums g then [] else [⟨9,L.length,[]⟩]))++casesI L d g cs:=by rw [casesI,List.flatMap_cons];rfl
abbrev cgS (ds:List De) (a:Nat) (es:List (List UInt8 × PV)) (d:De) (g:Int) (l:List Iss):Hp:=⟨5,[(4,smO g),(3,dcO d),(2,isO l),(1,fmO es),(0,ckO ds (a:Nat) 2 l.length)]⟩
abbrev cgT (ds:List De) (a:Nat) (es:List (List UInt8 × PV)) (d:De) (g:Int) (l:List Iss):Hp:=⟨6,[(5,isO l),(4,smO g),(3,dcO d),(1,fmO es),(0,ckO ds (a:Nat) 5 l.length)]⟩
def cgQ (ds:List De) (a:Nat) (es:List (List UInt8 × PV)) (d:De) (g:Int) (l:List Iss) (e:AE) (H':Hp):Prop:=e=.returned und∧H'=cgT ds a es d g l
theorem casesN_h {ds:List De} {a:Nat} {es:List (List UInt8 × PV)} (l:List Iss) (h:CkS ds a es) (d:De) (g:Int) (hk:¬ d.kind=5) (hdr:d.refs.length≤100) (hcl:d.cases.length≤100) (hc:∀ c∈d.cases,CaOK c) (hl:(l++casesI (ds.take a) d g d.cases).length≤100000) :
  HoldsG cx 84 [.ptr 0 0 0, .p d.pv, .fn (.func 85) [] [.ptr 3 0 0, .ptr 4 0 0]] (cgS ds a es d g l) (cgQ ds a es d g (l++casesI (ds.take a) d g d.cases)):=by
 obtain⟨dk,dn,dnm,dpl,drs,dcs⟩:=d
 have hdr:drs.length≤100:=hdr
 have hcl:dcs.length≤100:=hcl
 have hc:∀ c∈dcs,CaOK c:=hc
 have hl:(l++casesI (ds.take a) ⟨dk,dn,dnm,dpl,drs,dcs⟩ g dcs).length≤100000:=hl
 obtain⟨R,hR⟩:∃ R,R=l++casesI (ds.take a) ⟨dk,dn,dnm,dpl,drs,dcs⟩ g dcs:=⟨_,rfl⟩
 show HoldsG cx _ _ _ (cgQ ds a es ⟨dk,dn,dnm,dpl,drs,dcs⟩ g (l++casesI (ds.take a) ⟨dk,dn,dnm,dpl,drs,dcs⟩ g dcs))
 rw [← hR] at hl ⊢
 have hm:(dcs.map Cs.cells).length=dcs.length:=List.length_map ..
 refine holdsN_of_vc Tryz.func84 rfl rfl rfl ?_
 refine⟨Nat × List Iss,fun x=>[(2, .fn (.func 85) [] [.ptr 3 0 0, .ptr 4 0 0]),(3, .ptr 6 0 0),(4, .ptr 7 0 0),(6, .ptr 8 0 0),(11, .p (css dcs)),(12, .p (i64 dcs.length)),(13, .p (i64 x.1))],fun x=>⟨9,[(8,⟨194,false, .bx [.fn (.func 111) [] [.ptr 8 0 0, .ptr 6 0 0, .ptr 7 0 0]]⟩),(7,dcO ⟨dk,dn,dnm,dpl,drs,dcs⟩),(6,cbO),(5,isO x.2),(4,smO g),(3,dcO ⟨dk,dn,dnm,dpl,drs,dcs⟩),(1,fmO es),(0,ckO ds (a:Nat) 5 x.2.length)]⟩,fun x=>x.1≤dcs.length∧x.2++casesI (ds.take a) ⟨dk,dn,dnm,dpl,drs,dcs⟩ g (dcs.drop x.1)=R,fun x=>dcs.length - x.1,?_,?_⟩
 ·exact⟨(0,l),⟨Nat.zero_le _,hR.symm⟩,ent_of [] [(5,2),(6,5),(7,6),(8,7)] [] rfl ⟨sk,⟨rfl,rfl⟩,⟨rfl,rfl⟩,⟨rfl,rfl⟩,rfl,congrArg (fun n:Nat=>i64 n) hm.symm,rfl,trivial⟩ (sk) rfl⟩
 rintro⟨k,cur⟩ ⟨k1,k2⟩
 simp only [] at k1 k2
 (first | refine brLt (fun m1=>?_) (fun m1=>?_) | refine brLe (fun m1=>?_) (fun m1=>?_) | refine brEq (fun m1=>?_) (fun m1=>?_))
 rotate_left
 ·have m1:¬ (k:Int)<(dcs.length:Nat):=m1
  rw [List.drop_eq_nil_of_le (by omega),show casesI (ds.take a) ⟨dk,dn,dnm,dpl,drs,dcs⟩ g []=[] from rfl,List.append_nil] at k2
  exact⟨[],[(5,5)],[], .returned und,cgT ds a es ⟨dk,dn,dnm,dpl,drs,dcs⟩ g cur,rfl,sk,sk,rfl,by rw [← k2]⟩
 have m1:(k:Int)<(dcs.length:Nat):=m1
 have hkk:k<dcs.length:=by omega
 have hcell:=scell hkk
 have hx:=hc _ (getD_memL cs0 hkk)
 rw [dropD cs0 hkk,casesI_step,h.tk] at k2
 generalize dcs.getD k cs0=x at hcell hx k2
 obtain⟨⟨xo,xn,xr,xv,xf,xs,xa⟩,xw⟩:=x
 obtain⟨x1,x2,x3⟩:=hx
 simp only [] at x1 x2 x3 k2
 have hlen:=hl
 rw [← k2,List.length_append,List.length_append,List.length_append] at hlen
 refine⟨_,⟨by omega,(⟨.mk xo xn xr xv xf xs xa,xw⟩:Cs).cells,hcell,rfl⟩,?_⟩
 refine(walk_h h ⟨dk,dn,dnm,dpl,drs,dcs⟩ hdr _ (.mk xo xn xr xv xf xs xa) cur (Nat.le_refl _) x1 (by rw [List.length_append];omega)).holds.useT [] [(2,5),(3,6),(4,7),(5,8)] rfl (sk) (sk) fun e0 H0 hq=>?_
 obtain⟨rfl,rfl⟩:=hq
 rw [← List.append_assoc,← List.append_assoc] at k2
 have hnl:(cur++condI (ds.take a) ⟨dk,dn,dnm,dpl,drs,dcs⟩ (.mk xo xn xr xv xf xs xa)).length≤100000:=by rw [List.length_append];omega
 clear hlen
 generalize cur++condI (ds.take a) ⟨dk,dn,dnm,dpl,drs,dcs⟩ (.mk xo xn xr xv xf xs xa)=nxt at k2 hnl ⊢
 refine⟨rfl,_,⟨11,(10,isO nxt)::(8,⟨194,false, .bx [.fn (.func 111) [] [.ptr 8 0 0, .ptr 6 0 0, .ptr 7 0 0]]⟩)::(7,dcO ⟨dk,dn,dnm,dpl,drs,dcs⟩)::(6,cbO)::(1,fmO es)::(0,ckO ds (a:Nat) 10 nxt.length)::[(9,kcO ⟨.mk xo xn xr xv xf xs xa,xw⟩),(4,smO g),(3,dcO ⟨dk,dn,dnm,dpl,drs,dcs⟩)]⟩,rfl,rfl,?_⟩
 have hr:=node1_h ⟨dk,dn,dnm,dpl,drs,dcs⟩ g xw x2 x3 hk
 by_cases hrow:rowI ⟨dk,dn,dnm,dpl,drs,dcs⟩ xw g=true
 ·rw [hrow] at hr k2
  rw [if_pos rfl,List.append_nil] at k2
  refine hr.holds.useT [] [(0,3),(1,4)] rfl (sk) (sk) fun e0 H0 hq=>?_
  obtain⟨rfl,rfl⟩:=hq
  refine⟨rfl,_,⟨11,(4,smO g)::(3,dcO ⟨dk,dn,dnm,dpl,drs,dcs⟩)::[(10,isO nxt),(8,⟨194,false, .bx [.fn (.func 111) [] [.ptr 8 0 0, .ptr 6 0 0, .ptr 7 0 0]]⟩),(7,dcO ⟨dk,dn,dnm,dpl,drs,dcs⟩),(6,cbO),(1,fmO es),(0,ckO ds (a:Nat) 10 nxt.length),(9,kcO ⟨.mk xo xn xr xv xf xs xa,xw⟩)]⟩,rfl,rfl,?_⟩
  refine⟨((k+1:Nat):Int),by rw [Int.natCast_add];exact wrap_i64 (by omega) (by omega),?_⟩
  exact⟨(k+1,nxt),⟨by show k+1≤dcs.length;omega,k2⟩,ent_of [] [(5,10),(6,6),(7,7),(8,8)] [] rfl ⟨sk,⟨rfl,rfl⟩,⟨rfl,rfl⟩,⟨rfl,rfl⟩,rfl,rfl,rfl,trivial⟩ (sk) rfl,by show dcs.length - (k+1)<dcs.length - k;omega⟩
 ·rw [Bool.not_eq_true] at hrow
  rw [hrow] at hr k2
  rw [if_neg (by decide)] at k2
  refine hr.holds.useT [] [(0,3),(1,4)] rfl (sk) (sk) fun e0 H0 hq=>?_
  obtain⟨rfl,rfl⟩:=hq
  refine⟨rfl,_,⟨11,(4,smO g)::(3,dcO ⟨dk,dn,dnm,dpl,drs,dcs⟩)::[(10,isO nxt),(8,⟨194,false, .bx [.fn (.func 111) [] [.ptr 8 0 0, .ptr 6 0 0, .ptr 7 0 0]]⟩),(7,dcO ⟨dk,dn,dnm,dpl,drs,dcs⟩),(6,cbO),(1,fmO es),(0,ckO ds (a:Nat) 10 nxt.length),(9,kcO ⟨.mk xo xn xr xv xf xs xa,xw⟩)]⟩,rfl,rfl,?_⟩
  refine(note0_h ds a es (nxt) 9 (by first | omega | (simp only [List.length_append,List.length_cons,List.length_nil];omega))).holds.useT [] [(2,10)] rfl (sk) (sk) fun e0 H0 hq=>?_
  obtain⟨rfl,rfl⟩:=hq
  refine⟨rfl,_,⟨12,(11,isO ((nxt)++[Iss.mk 9 (a:Nat) []]))::(1,fmO es)::(0,ckO ds (a:Nat) 11 ((nxt)++[Iss.mk 9 (a:Nat) []]).length)::[(4,smO g),(3,dcO ⟨dk,dn,dnm,dpl,drs,dcs⟩),(8,⟨194,false, .bx [.fn (.func 111) [] [.ptr 8 0 0, .ptr 6 0 0, .ptr 7 0 0]]⟩),(7,dcO ⟨dk,dn,dnm,dpl,drs,dcs⟩),(6,cbO),(9,kcO ⟨.mk xo xn xr xv xf xs xa,xw⟩)]⟩,rfl,rfl,?_⟩
  refine⟨((k+1:Nat):Int),by rw [Int.natCast_add];exact wrap_i64 (by omega) (by omega),?_⟩
  exact⟨(k+1,nxt++[Iss.mk 9 (a:Nat) []]),⟨by show k+1≤dcs.length;omega,k2⟩,ent_of [] [(5,11),(6,6),(7,7),(8,8)] [] rfl ⟨sk,⟨rfl,rfl⟩,⟨rfl,rfl⟩,⟨rfl,rfl⟩,rfl,rfl,rfl,trivial⟩ (sk) rfl,by show dcs.length - (k+1)<dcs.length - k;omega⟩
theorem casesG_h {ds:List De} {a:Nat} {es:List (List UInt8 × PV)} (l:List Iss) (h:CkS ds a es) (d:De) (g:Int) (hk:d.kind=5) (hdr:d.refs.length≤100) (hcl:d.cases.length≤100) (hc:∀ c∈d.cases,CaOK c) (hl:(l++casesI (ds.take a) d g d.cases).length≤100000) :
  HoldsG cx 84 [.ptr 0 0 0, .p d.pv, .p (.fn (.func 87) [] [])] (ckS ds a es l) (nQ ds a es (l++casesI (ds.take a) d g d.cases)):=by
 obtain⟨dk,dn,dnm,dpl,drs,dcs⟩:=d
 have hdr:drs.length≤100:=hdr
 have hcl:dcs.length≤100:=hcl
 have hc:∀ c∈dcs,CaOK c:=hc
 have hl:(l++casesI (ds.take a) ⟨dk,dn,dnm,dpl,drs,dcs⟩ g dcs).length≤100000:=hl
 obtain⟨R,hR⟩:∃ R,R=l++casesI (ds.take a) ⟨dk,dn,dnm,dpl,drs,dcs⟩ g dcs:=⟨_,rfl⟩
 show HoldsG cx _ _ _ (nQ ds a es (l++casesI (ds.take a) ⟨dk,dn,dnm,dpl,drs,dcs⟩ g dcs))
 rw [← hR] at hl ⊢
 have hm:(dcs.map Cs.cells).length=dcs.length:=List.length_map ..
 refine holdsN_of_vc Tryz.func84 rfl rfl rfl ?_
 refine⟨Nat × List Iss,fun x=>[(2, .p (.fn (.func 87) [] [])),(3, .ptr 4 0 0),(4, .ptr 5 0 0),(6, .ptr 6 0 0),(11, .p (css dcs)),(12, .p (i64 dcs.length)),(13, .p (i64 x.1))],fun x=>⟨7,[(6,⟨194,false, .bx [.fn (.func 111) [] [.ptr 6 0 0, .ptr 4 0 0, .ptr 5 0 0]]⟩),(5,dcO ⟨dk,dn,dnm,dpl,drs,dcs⟩),(4,cbO),(3,isO x.2),(1,fmO es),(0,ckO ds (a:Nat) 3 x.2.length)]⟩,fun x=>x.1≤dcs.length∧x.2++casesI (ds.take a) ⟨dk,dn,dnm,dpl,drs,dcs⟩ g (dcs.drop x.1)=R,fun x=>dcs.length - x.1,?_,?_⟩
 ·exact⟨(0,l),⟨Nat.zero_le _,hR.symm⟩,ent_of [] [(3,2),(4,3),(5,4),(6,5)] [] rfl ⟨rfl,⟨rfl,rfl⟩,⟨rfl,rfl⟩,⟨rfl,rfl⟩,rfl,congrArg (fun n:Nat=>i64 n) hm.symm,rfl,trivial⟩ (sk) rfl⟩
 rintro⟨k,cur⟩ ⟨k1,k2⟩
 simp only [] at k1 k2
 (first | refine brLt (fun m1=>?_) (fun m1=>?_) | refine brLe (fun m1=>?_) (fun m1=>?_) | refine brEq (fun m1=>?_) (fun m1=>?_))
 rotate_left
 ·have m1:¬ (k:Int)<(dcs.length:Nat):=m1
  rw [List.drop_eq_nil_of_le (by omega),show casesI (ds.take a) ⟨dk,dn,dnm,dpl,drs,dcs⟩ g []=[] from rfl,List.append_nil] at k2
  exact⟨[],[(3,3)],[], .returned und,ckT ds a es cur,rfl,sk,sk,rfl,by rw [← k2]⟩
 have m1:(k:Int)<(dcs.length:Nat):=m1
 have hkk:k<dcs.length:=by omega
 have hcell:=scell hkk
 have hx:=hc _ (getD_memL cs0 hkk)
 rw [dropD cs0 hkk,casesI_step,h.tk] at k2
 generalize dcs.getD k cs0=x at hcell hx k2
 obtain⟨⟨xo,xn,xr,xv,xf,xs,xa⟩,xw⟩:=x
 obtain⟨x1,x2,x3⟩:=hx
 simp only [] at x1 x2 x3 k2
 have hlen:=hl
 rw [← k2,List.length_append,List.length_append,List.length_append] at hlen
 refine⟨_,⟨by omega,(⟨.mk xo xn xr xv xf xs xa,xw⟩:Cs).cells,hcell,rfl⟩,?_⟩
 refine(walk_h h ⟨dk,dn,dnm,dpl,drs,dcs⟩ hdr _ (.mk xo xn xr xv xf xs xa) cur (Nat.le_refl _) x1 (by rw [List.length_append];omega)).holds.useT [] [(2,3),(3,4),(4,5),(5,6)] rfl (sk) (sk) fun e0 H0 hq=>?_
 obtain⟨rfl,rfl⟩:=hq
 rw [← List.append_assoc,← List.append_assoc] at k2
 have hnl:(cur++condI (ds.take a) ⟨dk,dn,dnm,dpl,drs,dcs⟩ (.mk xo xn xr xv xf xs xa)).length≤100000:=by rw [List.length_append];omega
 clear hlen
 generalize cur++condI (ds.take a) ⟨dk,dn,dnm,dpl,drs,dcs⟩ (.mk xo xn xr xv xf xs xa)=nxt at k2 hnl ⊢
 refine⟨rfl,_,⟨9,(8,isO nxt)::(6,⟨194,false, .bx [.fn (.func 111) [] [.ptr 6 0 0, .ptr 4 0 0, .ptr 5 0 0]]⟩)::(5,dcO ⟨dk,dn,dnm,dpl,drs,dcs⟩)::(4,cbO)::(1,fmO es)::(0,ckO ds (a:Nat) 8 nxt.length)::[(7,kcO ⟨.mk xo xn xr xv xf xs xa,xw⟩)]⟩,rfl,rfl,?_⟩
 have hr:=gain1_c ⟨dk,dn,dnm,dpl,drs,dcs⟩ g xw hk
 by_cases hrow:rowI ⟨dk,dn,dnm,dpl,drs,dcs⟩ xw g=true
 ·rw [hrow] at hr k2
  rw [if_pos rfl,List.append_nil] at k2
  refine hr.eq rfl ?_
  refine⟨((k+1:Nat):Int),by rw [Int.natCast_add];exact wrap_i64 (by omega) (by omega),?_⟩
  exact⟨(k+1,nxt),⟨by show k+1≤dcs.length;omega,k2⟩,ent_of [] [(3,8),(4,4),(5,5),(6,6)] [] rfl ⟨rfl,⟨rfl,rfl⟩,⟨rfl,rfl⟩,⟨rfl,rfl⟩,rfl,rfl,rfl,trivial⟩ (sk) rfl,by show dcs.length - (k+1)<dcs.length - k;omega⟩
 ·rw [Bool.not_eq_true] at hrow
  rw [hrow] at hr k2
  rw [if_neg (by decide)] at k2
  refine hr.eq rfl ?_
  refine(note0_h ds a es (nxt) 9 (by first | omega | (simp only [List.length_append,List.length_cons,List.length_nil];omega))).holds.useT [] [(2,8)] rfl (sk) (sk) fun e0 H0 hq=>?_
  obtain⟨rfl,rfl⟩:=hq
  refine⟨rfl,_,⟨10,(9,isO ((nxt)++[Iss.mk 9 (a:Nat) []]))::(1,fmO es)::(0,ckO ds (a:Nat) 9 ((nxt)++[Iss.mk 9 (a:Nat) []]).length)::[(6,⟨194,false, .bx [.fn (.func 111) [] [.ptr 6 0 0, .ptr 4 0 0, .ptr 5 0 0]]⟩),(5,dcO ⟨dk,dn,dnm,dpl,drs,dcs⟩),(4,cbO),(7,kcO ⟨.mk xo xn xr xv xf xs xa,xw⟩)]⟩,rfl,rfl,?_⟩
  refine⟨((k+1:Nat):Int),by rw [Int.natCast_add];exact wrap_i64 (by omega) (by omega),?_⟩
  exact⟨(k+1,nxt++[Iss.mk 9 (a:Nat) []]),⟨by show k+1≤dcs.length;omega,k2⟩,ent_of [] [(3,9),(4,4),(5,5),(6,6)] [] rfl ⟨rfl,⟨rfl,rfl⟩,⟨rfl,rfl⟩,⟨rfl,rfl⟩,rfl,rfl,rfl,trivial⟩ (sk) rfl,by show dcs.length - (k+1)<dcs.length - k;omega⟩
set_option maxHeartbeats 4000000
theorem eachI_app (g:Int) (b:List De):∀ (a l:List De),eachI g l (a++b)=eachI g l a++eachI g (l++a) b
 | [],l=>by rw [List.append_nil];rfl
 | d::a,l=>by
  have e:l++[d]++a=l++d::a:=by rw [List.append_assoc];rfl
  rw [List.cons_append,eachI,eachI,eachI_app g b a (l++[d]),e,List.append_assoc]
def DK (a:Nat) (X:List Iss):Prop:=∀ i∈X,i.decl=(a:Nat)∧i.kind ≠ 10
theorem DK.nil {a:Nat}:DK a []:=fun i h=>by cases h
theorem DK.app {a:Nat} {X Z:List Iss} (h:DK a X) (k:DK a Z):DK a (X++Z):=fun i hi=>by
 rcases List.mem_append.1 hi with hi | hi
 ·exact h i hi
 ·exact k i hi
theorem DK.one {a:Nat} {k:Int} {nm:List UInt8} (h:k ≠ 10):DK a [⟨k,(a:Nat),nm⟩]:=fun i hi=>by
 rw [List.mem_singleton.1 hi];exact⟨rfl,h⟩
theorem DK.note {a:Nat} {k:Int} {nm:List UInt8} (h:k ≠ 10):DK a (noteI k (a:Nat) nm):=by
 unfold noteI
 split
 ·exact DK.nil
 ·exact DK.one h
theorem testI_ne (l:List De) (d:De) (op n val:Int) (r:Rf) (st:List Int):testI l d op n val r st ≠ 10:=by
 unfold testI
 split
 ·decide
 ·split
  ·decide
  ·split
   ·split <;> decide
   ·decide
mutual
theorem condI_dk (l:List De) (d:De):∀ c:Cd,DK l.length (condI l d c)
 | .mk op n _ val r st []=>by
  rw [condI]
  split
  ·exact DK.nil
  ·exact DK.note (testI_ne l d op n val r st)
 | .mk op n _ val r st (a::az)=>by
  rw [condI]
  exact(condI_dk l d a).app (condIs_dk l d az)
theorem condIs_dk (l:List De) (d:De):∀ c:List Cd,DK l.length (condIs l d c)
 | []=>by rw [condIs];exact DK.nil
 | a::az=>by
  rw [condIs]
  exact(condI_dk l d a).app (condIs_dk l d az)
end
structure OkD (d:De):Prop where
 kind:d.kind=1∨d.kind=2∨d.kind=3∨d.kind=4∨d.kind=5
 bare:d.kind=1∨d.kind=5→d.name=[]
 name:d.kind=2∨d.kind=3∨d.kind=4→d.name ≠ []
 plate:¬ d.kind=3→d.plate=[]
 refs:∀ r∈d.refs,r.name ≠ []
theorem fstV_find (nm:List UInt8):∀ l:List De,fstV l nm=l.find? fun d=>decide (d.name=nm)
 | []=>rfl
 | d::r=>by
  rw [List.find?_cons,← fstV_find nm r,fstV,fstI]
  by_cases h:d.name=nm
  ·rw [if_pos h,decide_eq_true h];rfl
  ·rw [if_neg h,decide_eq_false h]
   show((fstI r nm).map (·+1)).map _=fstV r nm
   rw [fstV]
   cases fstI r nm <;> rfl
theorem note_nil {k a:Int} {nm:List UInt8}:noteI k a nm=[] ↔ k=0:=by
 unfold noteI
 split
 ·rename_i h;exact⟨fun _=>h,fun _=>rfl⟩
 ·rename_i h;exact⟨fun e=>(by cases e),fun e=>absurd e h⟩
structure Apart (d x:De):Prop where
 plate:x.plate ≠ []→d.name ≠ x.plate
 refs:∀ r∈x.refs,d.name ≠ r.name
mutual
theorem condI_nil {l m:List De} {x:De} (h:∀ op n val r st,testI l x op n val r st=testI m x op n val r st):∀ c:Cd,condI l x c=[]→condI m x c=[]
 | .mk op n _ val r st [],hc=>by
  rw [condI] at hc ⊢
  split
  ·rfl
  ·rename_i h0
   rw [if_neg h0,note_nil,h] at hc
   exact note_nil.2 hc
 | .mk op n _ val r st (a::az),hc=>by
  rw [condI] at hc ⊢
  obtain⟨h1,h2⟩:=List.append_eq_nil_iff.1 hc
  rw [condI_nil h a h1,condIs_nil h az h2];rfl
theorem condIs_nil {l m:List De} {x:De} (h:∀ op n val r st,testI l x op n val r st=testI m x op n val r st):∀ c:List Cd,condIs l x c=[]→condIs m x c=[]
 | [],_=>by rw [condIs]
 | a::az,hc=>by
  rw [condIs] at hc ⊢
  obtain⟨h1,h2⟩:=List.append_eq_nil_iff.1 hc
  rw [condI_nil h a h1,condIs_nil h az h2];rfl
end
theorem eachI_at {g:Int}:∀ (r l:List De),eachI g l r=[]→∀ k,k<r.length→oneI (l++r.take k) (r.getD k de0) g=[]
 | [],_,_,k,hk=>by cases hk
 | x::r,l,h,k,hk=>by
  rw [eachI] at h
  obtain⟨h1,h2⟩:=List.append_eq_nil_iff.1 h
  cases k with
  | zero=>rw [List.take_zero,List.append_nil];exact h1
  | succ k=>
   have:=eachI_at r (l++[x]) h2 k (by simpa using hk)
   rw [List.append_assoc] at this
   exact this
theorem nodesI_app:∀ (a l b:List De),nodesI l (a++b)=nodesI l a+nodesI (l++a) b∧worldsI l (a++b)=worldsI l a * worldsI (l++a) b
 | [],l,b=>by rw [List.append_nil];exact⟨(Nat.zero_add _).symm,(Nat.one_mul _).symm⟩
 | d::a,l,b=>by
  have ih:=nodesI_app a (l++[d]) b
  have e:l++[d]++a=l++d::a:=by rw [List.append_assoc];rfl
  rw [e] at ih
  rw [List.cons_append,nodesI,nodesI,worldsI,worldsI,ih.1,ih.2,Nat.add_assoc,Nat.mul_assoc]
  exact⟨rfl,rfl⟩
theorem cardI_n {l:List De} {d:De} (h:cardI l d=[]):2≤d.n∧d.n≤4:=by
 unfold cardI at h
 split at h
 ·cases h
 ·rename_i hn;omega
theorem oneI_card {l:List De} {d:De} {g:Int} (h:oneI l d g=[]) (hk:d.kind=3∨d.kind=4):2≤d.n∧d.n≤4:=by
 unfold oneI at h
 rcases hk with hk | hk
 ·rw [if_neg (by omega),if_neg (by omega),if_pos hk] at h
  exact cardI_n (List.append_eq_nil_iff.1 (List.append_eq_nil_iff.1 (List.append_eq_nil_iff.1 h).2).2).1
 ·rw [if_neg (by omega),if_neg (by omega),if_neg (by omega),if_pos hk] at h
  exact cardI_n (List.append_eq_nil_iff.1 (List.append_eq_nil_iff.1 h).2).1
theorem oneI_size {l:List De} {d:De} {g:Int} (h:oneI l d g=[]) (hk:d.kind=2):1≤d.n∧d.n≤6:=by
 unfold oneI at h
 rw [if_neg (by omega),if_pos hk] at h
 have h2:=(List.append_eq_nil_iff.1 h).2
 split at h2
 ·cases h2
 ·rename_i hn;omega
theorem oneI_plate {l:List De} {d:De} {g:Int} (h:oneI l d g=[]) (hk:d.kind=3) (hp:¬ d.plate=[]):∃ t,fstV l d.plate=some t∧t.kind=2:=by
 unfold oneI at h
 rw [if_neg (by omega),if_neg (by omega),if_pos hk] at h
 have h2:=(List.append_eq_nil_iff.1 (List.append_eq_nil_iff.1 h).2).1
 unfold plateI at h2
 rw [if_neg hp] at h2
 cases ht:fstV l d.plate with
 | none=>rw [ht] at h2;cases h2
 | some t=>
  rw [ht] at h2
  simp only [] at h2
  split at h2
  ·rename_i hk;exact⟨t,rfl,hk⟩
  ·cases h2
theorem mem_at {α:Type} {l:List α} {x:α} (d:α) (h:x∈l):∃ k,k<l.length∧l.getD k d=x:=by
 obtain⟨k,hk,e⟩:=List.getElem_of_mem h
 exact⟨k,hk,by rw [List.getD_eq_getElem?_getD,List.getElem?_eq_getElem hk];exact e⟩
theorem size_pos {ds:List De} {g:Int} (h:eachI g [] ds=[]) {k:Nat} (hk:k<ds.length) (h3:(ds.getD k de0).kind=3) (hp:¬ (ds.getD k de0).plate=[]):1≤sizeV (ds.take k) (ds.getD k de0).plate∧sizeV (ds.take k) (ds.getD k de0).plate≤6:=by
 have h1:=eachI_at ds [] h k hk
 rw [List.nil_append] at h1
 obtain⟨t,ht,k2⟩:=oneI_plate h1 h3 hp
 obtain⟨j,hj,e⟩:=mem_at de0 (List.mem_of_mem_take (fstV_mem ht).1)
 have h2:=eachI_at ds [] h j hj
 rw [e] at h2
 rw [sizeV,ht]
 simp only [if_pos k2]
 exact oneI_size h2 k2
theorem symsI_len:∀ (r l:List De),(symsI l r).length=(r.filter fun d=>decide (d.kind=2∨d.kind=3∨d.kind=4)).length
 | [],_=>rfl
 | d::r,l=>by
  rw [symsI,List.length_append,symsI_len r,List.filter_cons]
  by_cases h:d.kind=2∨d.kind=3∨d.kind=4
  ·rw [if_pos h,if_pos (by rw [decide_eq_true h]),List.length_cons];exact Nat.add_comm 1 _
  ·rw [if_neg h,if_neg (by rw [decide_eq_false h];simp)];exact Nat.zero_add _
theorem base_nil {ds:List De} (h:allI ds=[]):headI ds=[]∧eachI (grainI ds) [] ds=[]∧bigI ds=false:=by
 unfold allI at h
 split at h
 ·rename_i hb
  obtain⟨h1,h2⟩:=List.append_eq_nil_iff.1 hb
  refine⟨h1,h2,?_⟩
  by_cases hx:bigI ds=true
  ·rw [if_pos hx] at h;cases h
  ·exact Bool.not_eq_true _ ▸ hx
 ·rename_i hb;exact absurd h hb
set_option maxHeartbeats 40000000
structure DcOK (d:De):Prop where
 ok:OkD d
 refs:d.refs.length≤100
 len:d.cases.length≤100
 cases:∀ c∈d.cases,CaOK c
theorem grain_hS {ds:List De} {a:Nat} {es:List (List UInt8 × PV)} (l:List Iss) (h:CkS ds a es) (d:De) (hk:d.kind=1) (hl:(l++oneI (ds.take a) d (grainI ds)).length≤90000):HoldsG cx 49 [.ptr 0 0 0, .p d.pv] (ckS ds a es l) (nQ ds a es (l++oneI (ds.take a) d (grainI ds))):=by
 obtain⟨R,hR⟩:∃ R,R=l++oneI (ds.take a) d (grainI ds):=⟨_,rfl⟩
 rw [← hR] at hl ⊢
 rw [oneI,if_pos hk,h.tk] at hR
 have hl1:l.length≤90000:=by rw [hR,List.length_append] at hl;omega
 obtain⟨dk,dn,dnm,dpl,drs,dcs⟩:=d
 simp only [] at hR
 refine holdsN_of_vc Tryz.func49 rfl rfl rfl ?_
 (first | refine brLt (fun h0=>?_) (fun h0=>?_) | refine brLe (fun h0=>?_) (fun h0=>?_) | refine brEq (fun h0=>?_) (fun h0=>?_))
 ·have h0:(0:Int)<(a:Nat):=h0
  rw [if_pos (.inl (by omega))] at hR
  refine(note0_h ds a es (l) 1 (by first | omega | (simp only [List.length_append,List.length_cons,List.length_nil];omega))).holds.useT [] [] rfl (sk) (sk) fun e0 H0 hq=>?_
  obtain⟨rfl,rfl⟩:=hq
  refine⟨rfl,_,⟨5,(4,isO ((l)++[Iss.mk 1 (a:Nat) []]))::(1,fmO es)::(0,ckO ds (a:Nat) 4 ((l)++[Iss.mk 1 (a:Nat) []]).length)::[(3,dcO ⟨dk,dn,dnm,dpl,drs,dcs⟩)]⟩,rfl,rfl,?_⟩
  exact⟨[],[(3,4)],[], .returned und,ckT ds a es (l++[Iss.mk 1 (a:Nat) []]),rfl,sk,sk,rfl,by rw [hR]⟩
 have h0:¬ (0:Int)<(a:Nat):=h0
 (first | refine brLt (fun h1=>?_) (fun h1=>?_) | refine brLe (fun h1=>?_) (fun h1=>?_) | refine brEq (fun h1=>?_) (fun h1=>?_))
 ·have h1:dn<1:=h1
  rw [if_pos (.inr (.inl h1))] at hR
  refine(note0_h ds a es (l) 1 (by first | omega | (simp only [List.length_append,List.length_cons,List.length_nil];omega))).holds.useT [] [] rfl (sk) (sk) fun e0 H0 hq=>?_
  obtain⟨rfl,rfl⟩:=hq
  refine⟨rfl,_,⟨5,(4,isO ((l)++[Iss.mk 1 (a:Nat) []]))::(1,fmO es)::(0,ckO ds (a:Nat) 4 ((l)++[Iss.mk 1 (a:Nat) []]).length)::[(3,dcO ⟨dk,dn,dnm,dpl,drs,dcs⟩)]⟩,rfl,rfl,?_⟩
  exact⟨[],[(3,4)],[], .returned und,ckT ds a es (l++[Iss.mk 1 (a:Nat) []]),rfl,sk,sk,rfl,by rw [hR]⟩
 have h1:¬ dn<1:=h1
 (first | refine brLt (fun h2=>?_) (fun h2=>?_) | refine brLe (fun h2=>?_) (fun h2=>?_) | refine brEq (fun h2=>?_) (fun h2=>?_))
 ·have h2:60<dn:=h2
  rw [if_pos (.inr (.inr h2))] at hR
  refine(note0_h ds a es (l) 1 (by first | omega | (simp only [List.length_append,List.length_cons,List.length_nil];omega))).holds.useT [] [] rfl (sk) (sk) fun e0 H0 hq=>?_
  obtain⟨rfl,rfl⟩:=hq
  refine⟨rfl,_,⟨5,(4,isO ((l)++[Iss.mk 1 (a:Nat) []]))::(1,fmO es)::(0,ckO ds (a:Nat) 4 ((l)++[Iss.mk 1 (a:Nat) []]).length)::[(3,dcO ⟨dk,dn,dnm,dpl,drs,dcs⟩)]⟩,rfl,rfl,?_⟩
  exact⟨[],[(3,4)],[], .returned und,ckT ds a es (l++[Iss.mk 1 (a:Nat) []]),rfl,sk,sk,rfl,by rw [hR]⟩
 ·have h2:¬ 60<dn:=h2
  rw [if_neg (by omega),List.append_nil] at hR
  exact⟨[],[(3,2)],[], .returned und,ckT ds a es (l),rfl,sk,sk,rfl,by rw [hR]⟩
theorem plate_hS {ds:List De} {a:Nat} {es:List (List UInt8 × PV)} (l:List Iss) (h:CkS ds a es) (d:De) (hd:OkD d) (hk:d.kind=2) (hl:(l++oneI (ds.take a) d (grainI ds)).length≤90000):HoldsG cx 50 [.ptr 0 0 0, .p d.pv] (ckS ds a es l) (nQ ds a es (l++oneI (ds.take a) d (grainI ds))):=by
 obtain⟨R,hR⟩:∃ R,R=l++oneI (ds.take a) d (grainI ds):=⟨_,rfl⟩
 rw [← hR] at hl ⊢
 rw [oneI,if_neg (by omega),if_pos hk,← List.append_assoc,h.tk] at hR
 have hl1:(l++twiceI (ds.take a) d).length≤90000:=by rw [hR,List.length_append] at hl;omega
 have hl2:l.length≤90000:=by rw [List.length_append] at hl1;omega
 have hT:=twice_h l h d (hd.name (.inl hk)) (by omega)
 obtain⟨dk,dn,dnm,dpl,drs,dcs⟩:=d
 generalize l++twiceI (ds.take a) ⟨dk,dn,dnm,dpl,drs,dcs⟩=L1 at hT hR hl1
 simp only [] at hR hT
 refine holdsN_of_vc Tryz.func50 rfl rfl rfl ?_
 refine(hT).holds.useT [] [] rfl (sk) (sk) fun e0 H0 hq=>?_
 obtain⟨rfl,rfl⟩:=hq
 refine⟨rfl,_,⟨5,(4,isO (L1))::(1,fmO es)::(0,ckO ds (a:Nat) 4 (L1).length)::[(3,dcO ⟨dk,dn,dnm,dpl,drs,dcs⟩)]⟩,rfl,rfl,?_⟩
 (first | refine brLt (fun h1=>?_) (fun h1=>?_) | refine brLe (fun h1=>?_) (fun h1=>?_) | refine brEq (fun h1=>?_) (fun h1=>?_))
 ·have h1:dn<1:=h1
  rw [if_pos (.inl h1)] at hR
  refine(note1_h ds a es (L1) 5 dnm (by first | omega | (simp only [List.length_append,List.length_cons,List.length_nil];omega))).holds.useT [5] [(2,4)] rfl (sk) ⟨_,_,rfl,⟨rfl,rfl⟩,_,_,rfl,rfl,_,_,rfl,⟨_,rfl,by show 0+1≤1;decide,rfl⟩,rfl⟩ fun e0 H0 hq=>?_
  obtain⟨rfl,rfl⟩:=hq
  refine⟨rfl,_,⟨7,(6,isO ((L1)++[Iss.mk 5 (a:Nat) dnm]))::(1,fmO es)::(0,ckO ds (a:Nat) 6 ((L1)++[Iss.mk 5 (a:Nat) dnm]).length)::[(5,sfO dnm),(3,dcO ⟨dk,dn,dnm,dpl,drs,dcs⟩)]⟩,rfl,rfl,?_⟩
  exact⟨[],[(3,6)],[], .returned und,ckT ds a es (L1++[Iss.mk 5 (a:Nat) dnm]),rfl,sk,sk,rfl,by rw [hR]⟩
 have h1:¬ dn<1:=h1
 (first | refine brLt (fun h2=>?_) (fun h2=>?_) | refine brLe (fun h2=>?_) (fun h2=>?_) | refine brEq (fun h2=>?_) (fun h2=>?_))
 ·have h2:6<dn:=h2
  rw [if_pos (.inr h2)] at hR
  refine(note1_h ds a es (L1) 5 dnm (by first | omega | (simp only [List.length_append,List.length_cons,List.length_nil];omega))).holds.useT [5] [(2,4)] rfl (sk) ⟨_,_,rfl,⟨rfl,rfl⟩,_,_,rfl,rfl,_,_,rfl,⟨_,rfl,by show 0+1≤1;decide,rfl⟩,rfl⟩ fun e0 H0 hq=>?_
  obtain⟨rfl,rfl⟩:=hq
  refine⟨rfl,_,⟨7,(6,isO ((L1)++[Iss.mk 5 (a:Nat) dnm]))::(1,fmO es)::(0,ckO ds (a:Nat) 6 ((L1)++[Iss.mk 5 (a:Nat) dnm]).length)::[(5,sfO dnm),(3,dcO ⟨dk,dn,dnm,dpl,drs,dcs⟩)]⟩,rfl,rfl,?_⟩
  exact⟨[],[(3,6)],[], .returned und,ckT ds a es (L1++[Iss.mk 5 (a:Nat) dnm]),rfl,sk,sk,rfl,by rw [hR]⟩
 ·have h2:¬ 6<dn:=h2
  rw [if_neg (by omega),List.append_nil] at hR
  exact⟨[],[(3,4)],[], .returned und,ckT ds a es (L1),rfl,sk,sk,rfl,by rw [hR]⟩
theorem choose_hS {ds:List De} {a:Nat} {es:List (List UInt8 × PV)} (l:List Iss) (h:CkS ds a es) (d:De) (hd:DcOK d) (hk:d.kind=4) (hl:(l++oneI (ds.take a) d (grainI ds)).length≤90000):HoldsG cx 52 [.ptr 0 0 0, .p d.pv] (ckS ds a es l) (nQ ds a es (l++oneI (ds.take a) d (grainI ds))):=by
 obtain⟨R,hR⟩:∃ R,R=l++oneI (ds.take a) d (grainI ds):=⟨_,rfl⟩
 rw [← hR] at hl ⊢
 rw [oneI,if_neg (by omega),if_neg (by omega),if_neg (by omega),if_pos hk,← List.append_assoc,← List.append_assoc] at hR
 have hl1:((l++twiceI (ds.take a) d)++cardI (ds.take a) d).length≤90000:=by rw [hR,List.length_append] at hl;omega
 have hl2:(l++twiceI (ds.take a) d).length≤90000:=by rw [List.length_append] at hl1;omega
 have hl3:l.length≤90000:=by rw [List.length_append] at hl2;omega
 have hT:=twice_h l h d (hd.ok.name (.inr (.inr hk))) (by omega)
 have hC:=card_h (l++twiceI (ds.take a) d) h d (by omega)
 have hF:=ckrefs_h ((l++twiceI (ds.take a) d)++cardI (ds.take a) d) h d hd.ok.refs hd.refs (by omega)
 rw [← hR] at hF
 generalize (l++twiceI (ds.take a) d)++cardI (ds.take a) d=L2 at hC hF hl1
 generalize l++twiceI (ds.take a) d=L1 at hT hC hl2
 clear hR hd hk
 obtain⟨dk,dn,dnm,dpl,drs,dcs⟩:=d
 refine holdsN_of_vc Tryz.func52 rfl rfl rfl ?_
 refine(hT).holds.useT [] [] rfl (sk) (sk) fun e0 H0 hq=>?_
 obtain⟨rfl,rfl⟩:=hq
 refine⟨rfl,_,⟨5,(4,isO (L1))::(1,fmO es)::(0,ckO ds (a:Nat) 4 (L1).length)::[(3,dcO ⟨dk,dn,dnm,dpl,drs,dcs⟩)]⟩,rfl,rfl,?_⟩
 refine(hC).holds.useT [] [(2,4)] rfl (sk) (sk) fun e0 H0 hq=>?_
 obtain⟨rfl,rfl⟩:=hq
 refine⟨rfl,_,⟨6,(5,isO (L2))::(1,fmO es)::(0,ckO ds (a:Nat) 5 (L2).length)::[(3,dcO ⟨dk,dn,dnm,dpl,drs,dcs⟩)]⟩,rfl,rfl,?_⟩
 refine(hF).holds.useT [] [(2,5)] rfl (sk) (sk) fun e0 H0 hq=>?_
 obtain⟨rfl,rfl⟩:=hq
 refine⟨rfl,_,⟨7,(6,isO (R))::(1,fmO es)::(0,ckO ds (a:Nat) 6 (R).length)::[(3,dcO ⟨dk,dn,dnm,dpl,drs,dcs⟩)]⟩,rfl,rfl,?_⟩
 exact⟨[],[(3,6)],[], .returned und,ckT ds a es R,rfl,sk,sk,rfl,rfl⟩
theorem gain_hS {ds:List De} {a:Nat} {es:List (List UInt8 × PV)} (l:List Iss) (h:CkS ds a es) (d:De) (hd:DcOK d) (hk:d.kind=5) (hl:(l++oneI (ds.take a) d (grainI ds)).length≤90000):HoldsG cx 53 [.ptr 0 0 0, .p d.pv] (ckS ds a es l) (nQ ds a es (l++oneI (ds.take a) d (grainI ds))):=by
 obtain⟨R,hR⟩:∃ R,R=l++oneI (ds.take a) d (grainI ds):=⟨_,rfl⟩
 rw [← hR] at hl ⊢
 rw [oneI,if_neg (by omega),if_neg (by omega),if_neg (by omega),if_neg (by omega),← List.append_assoc] at hR
 have hl1:(l++refsI (ds.take a) d [] d.refs).length≤90000:=by rw [hR,List.length_append] at hl;omega
 have hl3:l.length≤90000:=by rw [List.length_append] at hl1;omega
 have hF:=ckrefs_h l h d hd.ok.refs hd.refs (by omega)
 have hC:=casesG_h (l++refsI (ds.take a) d [] d.refs) h d (grainI ds) hk hd.refs hd.len hd.cases (by rw [← hR];omega)
 rw [← hR] at hC
 generalize l++refsI (ds.take a) d [] d.refs=L1 at hC hF hl1
 clear hR hd hk
 obtain⟨dk,dn,dnm,dpl,drs,dcs⟩:=d
 refine holdsN_of_vc Tryz.func53 rfl rfl rfl ?_
 refine(hF).holds.useT [] [] rfl (sk) (sk) fun e0 H0 hq=>?_
 obtain⟨rfl,rfl⟩:=hq
 refine⟨rfl,_,⟨5,(4,isO (L1))::(1,fmO es)::(0,ckO ds (a:Nat) 4 (L1).length)::[(3,dcO ⟨dk,dn,dnm,dpl,drs,dcs⟩)]⟩,rfl,rfl,?_⟩
 refine(hC).holds.useT [] [(2,4)] rfl (sk) (sk) fun e0 H0 hq=>?_
 obtain⟨rfl,rfl⟩:=hq
 refine⟨rfl,_,⟨6,(5,isO (R))::(1,fmO es)::(0,ckO ds (a:Nat) 5 (R).length)::[(3,dcO ⟨dk,dn,dnm,dpl,drs,dcs⟩)]⟩,rfl,rfl,?_⟩
 exact⟨[],[(3,5)],[], .returned und,ckT ds a es R,rfl,sk,sk,rfl,rfl⟩
theorem node_hS {ds:List De} {a:Nat} {es:List (List UInt8 × PV)} (l:List Iss) (h:CkS ds a es) (d:De) (hd:DcOK d) (hk:d.kind=3) (hpos:1≤ds.length) (hl:(l++oneI (ds.take a) d (grainI ds)).length≤90000):HoldsG cx 51 [.ptr 0 0 0, .p d.pv] (ckS ds a es l) (nQ ds a es (l++oneI (ds.take a) d (grainI ds))):=by
 obtain⟨R,hR⟩:∃ R,R=l++oneI (ds.take a) d (grainI ds):=⟨_,rfl⟩
 rw [← hR] at hl ⊢
 rw [oneI,if_neg (by omega),if_neg (by omega),if_pos hk,← List.append_assoc,← List.append_assoc,← List.append_assoc,← List.append_assoc] at hR
 obtain⟨L1,e1⟩:∃ L,L=l++twiceI (ds.take a) d:=⟨_,rfl⟩
 obtain⟨L2,e2⟩:∃ L,L=L1++plateI (ds.take a) d:=⟨_,rfl⟩
 obtain⟨L3,e3⟩:∃ L,L=L2++cardI (ds.take a) d:=⟨_,rfl⟩
 obtain⟨L4,e4⟩:∃ L,L=L3++refsI (ds.take a) d [] d.refs:=⟨_,rfl⟩
 rw [← e1,← e2,← e3,← e4] at hR
 have hl4:L4.length≤90000:=by rw [hR,List.length_append] at hl;omega
 have hl3:L3.length≤90000:=by rw [e4,List.length_append] at hl4;omega
 have hl2:L2.length≤90000:=by rw [e3,List.length_append] at hl3;omega
 have hl1:L1.length≤90000:=by rw [e2,List.length_append] at hl2;omega
 have hl0:l.length≤90000:=by rw [e1,List.length_append] at hl1;omega
 obtain⟨g,hg⟩:∃ g,g=grainI ds:=⟨_,rfl⟩
 have hT:=twice_h l h d (hd.ok.name (.inr (.inl hk))) (by omega)
 have hC:=card_h L2 h d (by omega)
 have hF:=ckrefs_h L3 h d hd.ok.refs hd.refs (by omega)
 have hX:=casesN_h L4 h d g (by omega) hd.refs hd.len hd.cases (by rw [hg,← hR];omega)
 rw [hg,← hR,← hg] at hX
 rw [← e1] at hT
 rw [← e3] at hC
 rw [← e4] at hF
 have h0:∃ t:De,(ds.map De.cells)[0]?=some t.cells∧g=if t.kind=1 then t.n else 0:=by
  cases ds with
  | nil=>cases hpos
  | cons t r=>exact⟨t,rfl,hg⟩
 clear hg
 obtain⟨⟨ek,en,enm,epl,ers,ecs⟩,h0,hg⟩:=h0
 simp only [] at hg
 clear hR e1 e3 e4 hk
 obtain⟨dk,dn,dnm,dpl,drs,dcs⟩:=d
 rw [plateI,h.tk] at e2
 simp only [] at e2
 by_cases hp:dpl=[]
 ·rw [if_pos hp,List.append_nil] at e2
  refine holdsN_of_vc Tryz.func51 rfl rfl rfl ?_
  refine(hT).holds.useT [] [] rfl (sk) (sk) fun e0 H0 hq=>?_
  obtain⟨rfl,rfl⟩:=hq
  refine⟨rfl,_,⟨5,(4,isO (L1))::(1,fmO es)::(0,ckO ds (a:Nat) 4 (L1).length)::[(3,dcO ⟨dk,dn,dnm,dpl,drs,dcs⟩)]⟩,rfl,rfl,?_⟩
  refine And.intro (fun _=>?_) (fun h=>absurd hp h)
  subst e2
  refine(hC).holds.useT [] [(2,4)] rfl (sk) (sk) fun e0 H0 hq=>?_
  obtain⟨rfl,rfl⟩:=hq
  refine⟨rfl,_,⟨6,(5,isO (L3))::(1,fmO es)::(0,ckO ds (a:Nat) 5 (L3).length)::[(3,dcO ⟨dk,dn,dnm,dpl,drs,dcs⟩)]⟩,rfl,rfl,?_⟩
  refine(hF).holds.useT [] [(2,5)] rfl (sk) (sk) fun e0 H0 hq=>?_
  obtain⟨rfl,rfl⟩:=hq
  refine⟨rfl,_,⟨7,(6,isO (L4))::(1,fmO es)::(0,ckO ds (a:Nat) 6 (L4).length)::[(3,dcO ⟨dk,dn,dnm,dpl,drs,dcs⟩)]⟩,rfl,rfl,?_⟩
  refine⟨_,⟨by decide,(De.mk ek en enm epl ers ecs).cells,h0,rfl⟩,?_⟩
  (first | refine brLt (fun e1=>?_) (fun e1=>?_) | refine brLe (fun e1=>?_) (fun e1=>?_) | refine brEq (fun e1=>?_) (fun e1=>?_))
  ·have e1:ek=1:=e1
   rw [if_pos e1] at hg
   refine⟨_,⟨by decide,(De.mk ek en enm epl ers ecs).cells,h0,rfl⟩,?_⟩
   subst hg
   refine hX.holds.useT [] [(2,6),(4,7)] rfl (sk) (sk) fun e0 H0 hq=>?_
   obtain⟨rfl,rfl⟩:=hq
   refine⟨rfl,_,⟨9,(8,isO R)::(7,smO g)::(3,dcO ⟨dk,dn,dnm,dpl,drs,dcs⟩)::(1,fmO es)::(0,ckO ds (a:Nat) 8 R.length)::[]⟩,rfl,rfl,?_⟩
   exact⟨[],[(3,8)],[], .returned und,ckT ds a es R,rfl,sk,sk,rfl,rfl⟩
  ·have e1:¬ ek=1:=e1
   rw [if_neg e1] at hg
   subst hg
   refine hX.holds.useT [] [(2,6),(4,7)] rfl (sk) (sk) fun e0 H0 hq=>?_
   obtain⟨rfl,rfl⟩:=hq
   refine⟨rfl,_,⟨9,(8,isO R)::(7,smO 0)::(3,dcO ⟨dk,dn,dnm,dpl,drs,dcs⟩)::(1,fmO es)::(0,ckO ds (a:Nat) 8 R.length)::[]⟩,rfl,rfl,?_⟩
   exact⟨[],[(3,8)],[], .returned und,ckT ds a es R,rfl,sk,sk,rfl,rfl⟩
 rw [if_neg hp] at e2
 cases hv:fstV (ds.take a) dpl with
 | none=>
  have hf:=h.none hp hv
  rw [hv] at e2
  simp only [] at e2
  refine holdsN_of_vc Tryz.func51 rfl rfl rfl ?_
  refine(hT).holds.useT [] [] rfl (sk) (sk) fun e0 H0 hq=>?_
  obtain⟨rfl,rfl⟩:=hq
  refine⟨rfl,_,⟨5,(4,isO (L1))::(1,fmO es)::(0,ckO ds (a:Nat) 4 (L1).length)::[(3,dcO ⟨dk,dn,dnm,dpl,drs,dcs⟩)]⟩,rfl,rfl,?_⟩
  refine And.intro (fun h=>absurd h hp) (fun _=>?_)
  refine VDraw.seq rfl ?_
  refine⟨_, .inr ⟨hf,rfl⟩,?_⟩
  refine(note1_h ds a es (L1) 3 dpl (by first | omega | (simp only [List.length_append,List.length_cons,List.length_nil];omega))).holds.useT [5] [(2,4)] rfl (sk) ⟨_,_,rfl,⟨rfl,rfl⟩,_,_,rfl,rfl,_,_,rfl,⟨_,rfl,by show 0+1≤1;decide,rfl⟩,rfl⟩ fun e0 H0 hq=>?_
  obtain⟨rfl,rfl⟩:=hq
  refine⟨rfl,_,⟨7,(6,isO ((L1)++[Iss.mk 3 (a:Nat) dpl]))::(1,fmO es)::(0,ckO ds (a:Nat) 6 ((L1)++[Iss.mk 3 (a:Nat) dpl]).length)::[(5,sfO dpl),(3,dcO ⟨dk,dn,dnm,dpl,drs,dcs⟩)]⟩,rfl,rfl,?_⟩
  rw [← e2]
  refine(hC).holds.useT [] [(2,6)] rfl (sk) (sk) fun e0 H0 hq=>?_
  obtain⟨rfl,rfl⟩:=hq
  refine⟨rfl,_,⟨8,(7,isO (L3))::(1,fmO es)::(0,ckO ds (a:Nat) 7 (L3).length)::[(5,sfO dpl),(3,dcO ⟨dk,dn,dnm,dpl,drs,dcs⟩)]⟩,rfl,rfl,?_⟩
  refine(hF).holds.useT [] [(2,7)] rfl (sk) (sk) fun e0 H0 hq=>?_
  obtain⟨rfl,rfl⟩:=hq
  refine⟨rfl,_,⟨9,(8,isO (L4))::(1,fmO es)::(0,ckO ds (a:Nat) 8 (L4).length)::[(5,sfO dpl),(3,dcO ⟨dk,dn,dnm,dpl,drs,dcs⟩)]⟩,rfl,rfl,?_⟩
  refine⟨_,⟨by decide,(De.mk ek en enm epl ers ecs).cells,h0,rfl⟩,?_⟩
  (first | refine brLt (fun e1=>?_) (fun e1=>?_) | refine brLe (fun e1=>?_) (fun e1=>?_) | refine brEq (fun e1=>?_) (fun e1=>?_))
  ·have e1:ek=1:=e1
   rw [if_pos e1] at hg
   refine⟨_,⟨by decide,(De.mk ek en enm epl ers ecs).cells,h0,rfl⟩,?_⟩
   subst hg
   refine hX.holds.useT [] [(2,8),(4,9)] rfl (sk) (sk) fun e0 H0 hq=>?_
   obtain⟨rfl,rfl⟩:=hq
   refine⟨rfl,_,⟨11,(10,isO R)::(9,smO g)::(3,dcO ⟨dk,dn,dnm,dpl,drs,dcs⟩)::(1,fmO es)::(0,ckO ds (a:Nat) 10 R.length)::[(5,sfO dpl)]⟩,rfl,rfl,?_⟩
   exact⟨[],[(3,10)],[], .returned und,ckT ds a es R,rfl,sk,sk,rfl,rfl⟩
  ·have e1:¬ ek=1:=e1
   rw [if_neg e1] at hg
   subst hg
   refine hX.holds.useT [] [(2,8),(4,9)] rfl (sk) (sk) fun e0 H0 hq=>?_
   obtain⟨rfl,rfl⟩:=hq
   refine⟨rfl,_,⟨11,(10,isO R)::(9,smO 0)::(3,dcO ⟨dk,dn,dnm,dpl,drs,dcs⟩)::(1,fmO es)::(0,ckO ds (a:Nat) 10 R.length)::[(5,sfO dpl)]⟩,rfl,rfl,?_⟩
   exact⟨[],[(3,10)],[], .returned und,ckT ds a es R,rfl,sk,sk,rfl,rfl⟩
 | some t=>
  obtain⟨i,hf,hl,hc⟩:=h.some hp hv
  rw [hv] at e2
  obtain⟨tk,tn,tnm,tpl,trs,tcs⟩:=t
  simp only [] at e2
  refine holdsN_of_vc Tryz.func51 rfl rfl rfl ?_
  refine(hT).holds.useT [] [] rfl (sk) (sk) fun e0 H0 hq=>?_
  obtain⟨rfl,rfl⟩:=hq
  refine⟨rfl,_,⟨5,(4,isO (L1))::(1,fmO es)::(0,ckO ds (a:Nat) 4 (L1).length)::[(3,dcO ⟨dk,dn,dnm,dpl,drs,dcs⟩)]⟩,rfl,rfl,?_⟩
  refine And.intro (fun h=>absurd h hp) (fun _=>?_)
  refine VDraw.seq rfl ?_
  refine⟨_, .inl ⟨_,hf,rfl⟩,?_⟩
  refine⟨_,⟨by omega,(De.mk tk tn tnm tpl trs tcs).cells,hc,rfl⟩,?_⟩
  refine And.intro (fun k2=>?_) (fun k2=>?_)
  ·have k2:tk=2:=k2
   rw [if_pos k2,List.append_nil] at e2
   subst e2
   refine(hC).holds.useT [] [(2,4)] rfl (sk) (sk) fun e0 H0 hq=>?_
   obtain⟨rfl,rfl⟩:=hq
   refine⟨rfl,_,⟨6,(5,isO (L3))::(1,fmO es)::(0,ckO ds (a:Nat) 5 (L3).length)::[(3,dcO ⟨dk,dn,dnm,dpl,drs,dcs⟩)]⟩,rfl,rfl,?_⟩
   refine(hF).holds.useT [] [(2,5)] rfl (sk) (sk) fun e0 H0 hq=>?_
   obtain⟨rfl,rfl⟩:=hq
   refine⟨rfl,_,⟨7,(6,isO (L4))::(1,fmO es)::(0,ckO ds (a:Nat) 6 (L4).length)::[(3,dcO ⟨dk,dn,dnm,dpl,drs,dcs⟩)]⟩,rfl,rfl,?_⟩
   refine⟨_,⟨by decide,(De.mk ek en enm epl ers ecs).cells,h0,rfl⟩,?_⟩
   (first | refine brLt (fun e1=>?_) (fun e1=>?_) | refine brLe (fun e1=>?_) (fun e1=>?_) | refine brEq (fun e1=>?_) (fun e1=>?_))
   ·have e1:ek=1:=e1
    rw [if_pos e1] at hg
    refine⟨_,⟨by decide,(De.mk ek en enm epl ers ecs).cells,h0,rfl⟩,?_⟩
    subst hg
    refine hX.holds.useT [] [(2,6),(4,7)] rfl (sk) (sk) fun e0 H0 hq=>?_
    obtain⟨rfl,rfl⟩:=hq
    refine⟨rfl,_,⟨9,(8,isO R)::(7,smO g)::(3,dcO ⟨dk,dn,dnm,dpl,drs,dcs⟩)::(1,fmO es)::(0,ckO ds (a:Nat) 8 R.length)::[]⟩,rfl,rfl,?_⟩
    exact⟨[],[(3,8)],[], .returned und,ckT ds a es R,rfl,sk,sk,rfl,rfl⟩
   ·have e1:¬ ek=1:=e1
    rw [if_neg e1] at hg
    subst hg
    refine hX.holds.useT [] [(2,6),(4,7)] rfl (sk) (sk) fun e0 H0 hq=>?_
    obtain⟨rfl,rfl⟩:=hq
    refine⟨rfl,_,⟨9,(8,isO R)::(7,smO 0)::(3,dcO ⟨dk,dn,dnm,dpl,drs,dcs⟩)::(1,fmO es)::(0,ckO ds (a:Nat) 8 R.length)::[]⟩,rfl,rfl,?_⟩
    exact⟨[],[(3,8)],[], .returned und,ckT ds a es R,rfl,sk,sk,rfl,rfl⟩
  ·have k2:¬ tk=2:=k2
   rw [if_neg k2] at e2
   refine(note1_h ds a es (L1) 4 dpl (by first | omega | (simp only [List.length_append,List.length_cons,List.length_nil];omega))).holds.useT [5] [(2,4)] rfl (sk) ⟨_,_,rfl,⟨rfl,rfl⟩,_,_,rfl,rfl,_,_,rfl,⟨_,rfl,by show 0+1≤1;decide,rfl⟩,rfl⟩ fun e0 H0 hq=>?_
   obtain⟨rfl,rfl⟩:=hq
   refine⟨rfl,_,⟨7,(6,isO ((L1)++[Iss.mk 4 (a:Nat) dpl]))::(1,fmO es)::(0,ckO ds (a:Nat) 6 ((L1)++[Iss.mk 4 (a:Nat) dpl]).length)::[(5,sfO dpl),(3,dcO ⟨dk,dn,dnm,dpl,drs,dcs⟩)]⟩,rfl,rfl,?_⟩
   rw [← e2]
   refine(hC).holds.useT [] [(2,6)] rfl (sk) (sk) fun e0 H0 hq=>?_
   obtain⟨rfl,rfl⟩:=hq
   refine⟨rfl,_,⟨8,(7,isO (L3))::(1,fmO es)::(0,ckO ds (a:Nat) 7 (L3).length)::[(5,sfO dpl),(3,dcO ⟨dk,dn,dnm,dpl,drs,dcs⟩)]⟩,rfl,rfl,?_⟩
   refine(hF).holds.useT [] [(2,7)] rfl (sk) (sk) fun e0 H0 hq=>?_
   obtain⟨rfl,rfl⟩:=hq
   refine⟨rfl,_,⟨9,(8,isO (L4))::(1,fmO es)::(0,ckO ds (a:Nat) 8 (L4).length)::[(5,sfO dpl),(3,dcO ⟨dk,dn,dnm,dpl,drs,dcs⟩)]⟩,rfl,rfl,?_⟩
   refine⟨_,⟨by decide,(De.mk ek en enm epl ers ecs).cells,h0,rfl⟩,?_⟩
   (first | refine brLt (fun e1=>?_) (fun e1=>?_) | refine brLe (fun e1=>?_) (fun e1=>?_) | refine brEq (fun e1=>?_) (fun e1=>?_))
   ·have e1:ek=1:=e1
    rw [if_pos e1] at hg
    refine⟨_,⟨by decide,(De.mk ek en enm epl ers ecs).cells,h0,rfl⟩,?_⟩
    subst hg
    refine hX.holds.useT [] [(2,8),(4,9)] rfl (sk) (sk) fun e0 H0 hq=>?_
    obtain⟨rfl,rfl⟩:=hq
    refine⟨rfl,_,⟨11,(10,isO R)::(9,smO g)::(3,dcO ⟨dk,dn,dnm,dpl,drs,dcs⟩)::(1,fmO es)::(0,ckO ds (a:Nat) 10 R.length)::[(5,sfO dpl)]⟩,rfl,rfl,?_⟩
    exact⟨[],[(3,10)],[], .returned und,ckT ds a es R,rfl,sk,sk,rfl,rfl⟩
   ·have e1:¬ ek=1:=e1
    rw [if_neg e1] at hg
    subst hg
    refine hX.holds.useT [] [(2,8),(4,9)] rfl (sk) (sk) fun e0 H0 hq=>?_
    obtain⟨rfl,rfl⟩:=hq
    refine⟨rfl,_,⟨11,(10,isO R)::(9,smO 0)::(3,dcO ⟨dk,dn,dnm,dpl,drs,dcs⟩)::(1,fmO es)::(0,ckO ds (a:Nat) 10 R.length)::[(5,sfO dpl)]⟩,rfl,rfl,?_⟩
    exact⟨[],[(3,10)],[], .returned und,ckT ds a es R,rfl,sk,sk,rfl,rfl⟩
set_option maxHeartbeats 4000000
theorem inL_mem {l:List (List UInt8)} {s:List UInt8} (h:inL l s=true):s∈l:=by
 induction l with
 | nil=>simp [inL] at h
 | cons x r ih=>
  simp only [inL,Bool.or_eq_true,decide_eq_true_eq] at h
  rcases h with rfl | h
  ·simp
  ·exact List.mem_cons_of_mem _ (ih h)
theorem right_len {k:Int} {t:List UInt8} (h:rightN k t=true):1≤t.length∧t.length≤10:=by
 have ne:∀ {t:List UInt8},t ≠ []→1≤t.length:=by intro t ht;cases t <;> simp at ht ⊢
 unfold rightN at h
 split at h
 ·simp [nameN] at h;exact⟨ne h.1.1.1.1,h.1.1.1.2⟩
 ·split at h
  ·exact(by decide:∀ t∈keysL,1≤t.length∧t.length≤10) t (inL_mem h)
  ·split at h
   ·simp [numN] at h
    exact⟨ne h.1.1.1,by omega⟩
   ·split at h
    ·exact(by decide:∀ t∈marksL,1≤t.length∧t.length≤10) t (inL_mem h)
    ·cases h
structure JS where
 k:Nat
 a:Nat
 b:Nat
 lg:Nat
 n:Nat
 xs:List UInt8
 pre:List UInt8
structure JI where
 a:Nat
 b:Nat
 n:Nat
 xs:List UInt8
def tenL:List UInt8:=[48,49,50,51,52,53,54,55,56,57]
def digN:Nat→Nat→List UInt8
 | 0,_=>[]
 | f+1,n=>if n<10 then [tenL.getD n 0] else digN f (n / 10)++[tenL.getD (n % 10) 0]
structure Dr where
 kind:UInt8
 which:UInt8
 letters:List UInt8
 n:UInt16
 down:UInt8
 over:UInt8
abbrev Dr.cells (d:Dr):List PV:=[u8 d.kind,u8 d.which, .lst (d.letters.map u8), .int .u16 (d.n.toNat:Int),u8 d.down,u8 d.over]
def newL (d:Dr):Prop:=0<d.down.toNat % 3∧d.down.toNat<100
instance (d:Dr):Decidable (newL d):=inferInstanceAs (Decidable (_∧_))
structure WS where
 k:Nat
 a:Nat
 b:Nat
 out:List Wd
def isBl (c:UInt8):Prop:=c.toNat=32∨c.toNat=10
def stopB (r:List UInt8):Bool:=match r with
 | []=>true
 | c::_=>!(decide (c.toNat=32) || decide (c.toNat=10)) && !List.isPrefixOf [45,45] r && !List.isPrefixOf [40,42] r
def Skips (g r:List UInt8):Prop:=∀ f,(g++r).length≤f→skipN f (g++r)=.inl g.length
theorem spanN_all {f:UInt8→Bool} {t:List UInt8}:spanN f t=t.length ↔ ∀ c∈t,f c=true:=by
 induction t with
 | nil=>simp [spanN]
 | cons c t ih=>
  have hl:=spanN_le f t
  simp only [spanN,List.length_cons]
  by_cases h:f c=true
  ·rw [if_pos h]
   constructor
   ·intro e x hx
    rcases List.mem_cons.1 hx with rfl | hx
    ·exact h
    ·exact ih.1 (by omega) x hx
   ·intro e;rw [ih.2 fun x hx=>e x (by simp [hx])]
  ·rw [if_neg h]
   constructor
   ·intro e;omega
   ·intro e;exact absurd (e c (by simp)) h
def isSep (c:UInt8):Prop:=isBl c∨c.toNat=40
inductive Fol:List UInt8→List UInt8→Prop
 | nil (a:List UInt8):Fol a []
 | bl (a:List UInt8) (c:UInt8) (b:List UInt8) (h:isSep c):Fol a (c::b)
 | same (c:UInt8) (a b:List UInt8):Fol (c::a) (c::b)
inductive Lay:Nat × Nat→List UInt8→List Wd→List UInt8→Prop
 | nil (p:Nat × Nat) (suf:List UInt8):Lay p [] [] suf
 | cons {p:Nat × Nat} {g T:List UInt8} {w:Wd} {ws:List Wd} {suf:List UInt8} {l c:Nat} (hsk:Skips g (w.text++(T++suf))) (h1:oneN (w.text++(T++suf))=(w.kind,w.text)) (hr:rightN w.kind w.text=true)
   (hp:advs p g=(l,c)) (hl:w.line=l) (hc:w.col=c) (h:Lay (l,c+w.text.length) T ws suf):Lay p (g++(w.text++T)) (w::ws) suf
theorem Lay.len {p:Nat × Nat} {T:List UInt8} {ws:List Wd} {suf:List UInt8} (h:Lay p T ws suf):ws.length≤T.length:=by
 induction h with
 | nil=>simp
 | cons hsk h1 hr hp hl hc h ih=>
  have:=right_len hr
  simp only [List.length_cons,List.length_append]
  omega
abbrev Toks:=List (List UInt8)
def digT (n:Int):List UInt8:=digN 4 n.toNat
def intT (n:Int):Toks:=if n<0 then [tMinus,digT (-n)] else [digT n]
def tailT (r:Rf):Toks:=if r.mode=3 then [tLB,tAll,tRB] else if r.mode=2 then [tLB,digT r.n,tRB] else if r.mode=1 then(if 0<r.n then [tLB,r.plate,tPlus,digT r.n,tRB] else [tLB,r.plate,tRB]) else []
def refT (r:Rf):Toks:=r.name::tailT r
def sepT {α:Type} (f:α→Toks):List α→Toks
 | []=>[]
 | a::r=>f a++r.flatMap fun b=>tComma::f b
def relT (k:Int):List UInt8:=if k=1 then tEq else if k=2 then tNe else if k=3 then tLt else tLe
def lvl (op:Int):Nat:=if op=9 then 1 else if op=8 then 2 else if op=7 then 3 else 4
def inT (k:Nat) (p:Int × Toks):Toks:=if lvl p.1<k then tLP::(p.2++[tRP]) else p.2
def leafT (op n rel val:Int) (r:Rf) (st:List Int):Toks:=
 if op=6 then [tCount,tLP]++(refT r++[tEq,digT val,tRP,relT rel,digT n])
 else if op=5 then refT r++([tIn,tLC]++(sepT (fun n=>[digT n]) st++[tRC]))
 else refT r++[relT op,digT n]
def joinT (op n rel val:Int) (r:Rf) (st:List Int) (ps:List (Int × Toks)):Toks:=
 if op=9 then inT 1 (ps.getD 0 (0,[]))++tOr::inT 2 (ps.getD 1 (0,[]))
 else if op=8 then inT 2 (ps.getD 0 (0,[]))++tAnd::inT 3 (ps.getD 1 (0,[]))
 else if op=7 then tNot::inT 3 (ps.getD 0 (0,[]))
 else leafT op n rel val r st
def Cd.op:Cd→Int
 | .mk op _ _ _ _ _ _=>op
mutual
def condT:Cd→Toks
 | .mk op n rel val r st ar=>joinT op n rel val r st (condTs ar)
def condTs:List Cd→List (Int × Toks)
 | []=>[]
 | c::r=>(c.op,condT c)::condTs r
end
def withinT (k:Nat) (c:Cd):Toks:=inT k (c.op,condT c)
def numsT (l:List Int):Toks:=l.flatMap intT
def casesTx:List Cs→Toks
 | []=>[]
 | [c]=>tElse::tCol::numsT c.nums
 | c::d::r=>condT c.cond++(tCol::(numsT c.nums++(tSemi::casesTx (d::r))))
def ruleT (l:List Cs):Toks:=tLC::(casesTx l++[tRC])
def refsT (key:List UInt8) (l:List Rf):Toks:=if l=[] then [] else key::sepT refT l
def headT (d:De):Toks:=
 if d.kind=1 then [tGrain,digT d.n] else if d.kind=2 then [tPlate,d.name,tEq,digT d.n]
 else if d.kind=3 then [tNode,d.name]++((if d.plate=[] then [] else [tLB,d.plate,tRB])++([tCol,digT d.n]++(refsT tFrom d.refs++(tEq::ruleT d.cases))))
 else if d.kind=4 then [tChoose,d.name,tCol,digT d.n]++refsT tSeeing d.refs
 else if d.kind=5 then tGain::(refsT tFrom d.refs++(tEq::ruleT d.cases)) else []
def declT (d:De):Toks:=headT d++[tSemi]
def spW:Bool→Toks→List UInt8
 | _,[]=>[]
 | b,w::r=>(if b then [32] else [])++(w++spW true r)
theorem spW_app:∀ (b:Bool) (x y:Toks),spW b (x++y)=spW b x++spW (b || decide (x ≠ [])) y
 | b,[],y=>by simp [spW]
 | b,w::r,y=>by
  show(if b then [32] else [])++(w++spW true (r++y))=((if b then [32] else [])++(w++spW true r))++_
  rw [spW_app true r y]
  simp [List.append_assoc]
theorem spW_t (x y:Toks):spW true (x++y)=spW true x++spW true y:=by rw [spW_app];simp
theorem spW_tf:∀ {x:Toks},x ≠ []→spW true x=32::spW false x
 | [],h=>absurd rfl h
 | _::_,_=>rfl
def lineT (d:De):List UInt8:=spW false (declT d)++[10]
def textT (ds:List De):List UInt8:=ds.flatMap lineT
def cntT (ds:List De):Nat:=(ds.map fun d=>(declT d).length).sum
end Go.Proofs.YtmepdfingcmkmaaGreatDoor
namespace Go.Proofs.YtmepdfingcmkmaaGreatDoor
open Go Y
set_option maxRecDepth 100000
set_option maxHeartbeats 4000000
theorem ten_val:∀ n,n<10→(tenL.getD n 0).toNat=48+n:=by decide
structure DigOK (t:List UInt8) (n:Nat) (f:Nat):Prop where
 ne:t ≠ []
 len:t.length≤f
 dig:∀ c∈t,48≤c.toNat∧c.toNat≤57
 zero:n=0→t=[48]
 head:0<n→(t.headD 0).toNat ≠ 48
 val:valD t=n
theorem dig_ok:∀ (f n:Nat),n<10 ^ (f+1)→DigOK (digN (f+1) n) n (f+1)
 | f,n,h=>by
  rw [digN]
  by_cases c:n<10
  ·rw [if_pos c]
   have hv:=ten_val n c
   refine⟨by simp,by simp,fun x hx=>?_,fun e=>by subst e;rfl,fun e=>?_,?_⟩
   ·rw [List.mem_singleton.1 hx];omega
   ·show(tenL.getD n 0).toNat ≠ 48;omega
   ·show 10 * (0:Int)+(((tenL.getD n 0).toNat:Int) - 48)=n;omega
  ·rw [if_neg c]
   obtain⟨g,rfl⟩:∃ g,f=g+1:=by
    cases f with
    | zero=>exfalso;omega
    | succ g=>exact⟨g,rfl⟩
   have ih:=dig_ok g (n / 10) (by rw [Nat.pow_succ] at h;omega)
   have hv:=ten_val (n % 10) (by omega)
   refine⟨by simp,by have:=ih.len;simp only [List.length_append,List.length_singleton];omega,fun x hx=>?_,fun e=>by omega,fun _=>?_,?_⟩
   ·rcases List.mem_append.1 hx with hx | hx
    ·exact ih.dig x hx
    ·rw [List.mem_singleton.1 hx];omega
   ·have hh:=ih.head (by omega)
    have hne:=ih.ne
    cases hd:digN (g+1) (n / 10) with
    | nil=>exact absurd hd hne
    | cons x r=>rw [hd] at hh;exact hh
   ·rw [valD_snoc,ih.val];omega
theorem digT_num {n:Int} (h:natB n=true):numN (digT n)=true∧valD (digT n)=n:=by
 simp only [natB,Bool.and_eq_true,decide_eq_true_eq] at h
 have hd:=dig_ok 3 n.toNat (by show n.toNat<10000;omega)
 refine⟨?_,by rw [digT,hd.val];omega⟩
 unfold numN digT
 simp only [Bool.and_eq_true,decide_eq_true_eq,Bool.or_eq_true]
 refine⟨⟨⟨hd.ne,hd.len⟩,spanN_all.2 fun c hc=>?_⟩,?_⟩
 ·have:=hd.dig c hc
  simp only [isDig,Bool.and_eq_true,decide_eq_true_eq];exact this
 ·by_cases c:n.toNat=0
  ·exact .inl (hd.zero c)
  ·exact .inr (hd.head (by omega))
def AtW (ws:List Wd):Nat→Toks→Prop
 | _,[]=>True
 | q,t::r=>txt ws q=t∧AtW ws (q+1) r
theorem name_facts {t:List UInt8} (h:nameN t=true):t ≠ []∧inL keysL t=false∧numN t=false∧inL marksL t=false:=by
 simp only [nameN,Bool.and_eq_true,decide_eq_true_eq,Bool.not_eq_true'] at h
 obtain⟨⟨⟨⟨h1,h2⟩,h3⟩,h4⟩,h5⟩:=h
 refine⟨h1,h5,?_,?_⟩
 ·cases e:numN t with
  | false=>rfl
  | true=>
   exfalso
   have hd:=(num_dig e).2
   cases t with
   | nil=>exact h1 rfl
   | cons c r=>
    have:=hd c (List.mem_cons_self ..)
    have h3:isLet c=true:=h3
    simp only [isLet,Bool.or_eq_true,Bool.and_eq_true,decide_eq_true_eq] at h3
    omega
 ·cases e:inL marksL t with
  | false=>rfl
  | true=>
   exfalso
   have key:∀ s∈marksL,isLet (s.headD 0)=false:=by decide
   rw [key t (inL_mem e)] at h3
   cases h3
section
variable {ws:List Wd} (hg:GoodW ws)
include hg
end
end Go.Proofs.YtmepdfingcmkmaaGreatDoor
namespace Go.Proofs.YtmepdfingcmkmaaGreatDoor
open Go Y
set_option maxRecDepth 100000
set_option maxHeartbeats 4000000
theorem incB_at {l:List Int}:∀ (f k:Nat),incB l f k=true→∀ i,k≤i→i<k+f→natB (l.getD i 0)=true∧(i=0∨l.getD (i - 1) 0<l.getD i 0)
 | 0,k,_,i,h1,h2=>absurd h2 (by omega)
 | f+1,k,h,i,h1,h2=>by
  rw [incB] at h
  simp only [Bool.and_eq_true,Bool.or_eq_true,decide_eq_true_eq] at h
  by_cases c:i=k
  ·subst c
   exact h.1
  ·exact incB_at f (k+1) h.2 i (by omega) (by omega)
theorem setB_facts {l:List Int} (h:setB l=true):l ≠ []∧(∀ n∈l,natB n=true)∧setN l=l:=by
 simp only [setB,Bool.and_eq_true,decide_eq_true_eq] at h
 obtain⟨⟨h1,h2⟩,h3⟩:=h
 have hi:=incB_at l.length 0 h3
 refine⟨fun e=>by rw [e] at h1;simp at h1,fun n hn=>?_,?_⟩
 ·obtain⟨i,hi1,rfl⟩:=List.getElem_of_mem hn
  have:=(hi i (by omega) (by omega)).1
  rw [List.getD_eq_getElem?_getD,List.getElem?_eq_getElem hi1] at this
  exact this
 ·have hinc:Inc l:=by
   rw [Inc,List.pairwise_iff_getElem]
   have key:∀ (d i:Nat),i+d+1<l.length→l.getD i 0<l.getD (i+d+1) 0:=by
    intro d
    induction d with
    | zero=>
     intro i hd
     have:=(hi (i+0+1) (by omega) (by omega)).2
     rcases this with h | h
     ·omega
     ·exact h
    | succ d ih=>
     intro i hd
     have a:=ih i (by omega)
     have:=(hi (i+(d+1)+1) (by omega) (by omega)).2
     rcases this with h | h
     ·omega
     ·rw [show i+(d+1)+1 - 1=i+d+1 by omega] at h
      omega
   intro i j hi1 hj hij
   have:=key (j - i - 1) i (by omega)
   rw [show i+(j - i - 1)+1=j by omega,List.getD_eq_getElem?_getD,List.getElem?_eq_getElem hi1,List.getD_eq_getElem?_getD,List.getElem?_eq_getElem hj] at this
   exact this
  have hs:=set_fold l [] List.Pairwise.nil
  refine inc_ext hs.1 hinc fun y=>?_
  rw [setN] at *
  rw [hs.2]
  simp
def HeadOK (t:List UInt8):Prop:=nameN t=true∨t=tNot∨t=tLP∨t=tCount
structure CB (ws:List Wd) (c:Cd):Prop where
 neg:∀ F q,4 * (ws.length - q)+2≤F→AtW ws q (withinT 3 c)→negR ws F q=.inr (c,q+(withinT 3 c).length)
 conj:∀ F q,4 * (ws.length - q)+3≤F→AtW ws q (withinT 2 c)→∃ f,4 * (ws.length - (q+(withinT 2 c).length))+1≤f∧conjR ws F q=andR ws f c (q+(withinT 2 c).length)
 cond:∀ F q,4 * (ws.length - q)+4≤F→AtW ws q (withinT 1 c)→¬ txt ws (q+(withinT 1 c).length)=tAnd→∃ f,4 * (ws.length - (q+(withinT 1 c).length))+1≤f∧condR ws F q=orR ws f c (q+(withinT 1 c).length)
 head:∃ t r,condT c=t::r∧HeadOK t
section
variable {ws:List Wd} (hg:GoodW ws)
end
end Go.Proofs.YtmepdfingcmkmaaGreatDoor
namespace Go.Proofs.YtmepdfingcmkmaaGreatDoor
open Go Y
set_option maxRecDepth 100000
set_option maxHeartbeats 4000000
theorem foldM_mem {f:Nat→Cd→Option Nat}:∀ {ar:List Cd} {l k:Nat},ar.foldlM f l=some k→∀ c∈ar,∃ a b,f a c=some b
 | [],_,_,_,c,hc=>by simp at hc
 | x::ar,l,k,h,c,hc=>by
  rw [List.foldlM_cons] at h
  cases hx:f l x with
  | none=>rw [hx] at h;cases h
  | some m=>
   rw [hx] at h
   rcases List.mem_cons.1 hc with rfl | hc
   ·exact⟨l,m,hx⟩
   ·exact foldM_mem (ar:=ar) h c hc
theorem plain_zero {n rel val:Int} {r:Rf} {st:List Int} (h:plainB n rel val r st=true):n=0∧rel=0∧val=0∧r=rf0∧st=[]:=by
 simp only [plainB,Bool.and_eq_true,decide_eq_true_eq] at h
 exact⟨h.1.1.1.1,h.1.1.1.2,h.1.1.2,h.1.2,h.2⟩
theorem len2 {α:Type} {l:List α} (h:l.length=2):∃ a b,l=[a,b]:=by
 rcases l with _ | ⟨a,_ | ⟨b,_ | ⟨c,l⟩⟩⟩
 ·cases h
 ·cases h
 ·exact⟨a,b,rfl⟩
 ·simp only [List.length_cons] at h;omega
theorem len1 {α:Type} {l:List α} (h:l.length=1):∃ a,l=[a]:=by
 rcases l with _ | ⟨a,_ | ⟨b,l⟩⟩
 ·cases h
 ·exact⟨a,rfl⟩
 ·simp only [List.length_cons] at h;omega
inductive Sh (P:Cd→Prop):Cd→Prop
 | leaf (op n rel val:Int) (r:Rf) (st:List Int) (h7:¬ op=7) (h8:¬ op=8) (h9:¬ op=9) (h:leafB op n rel val r st=true):Sh P (.mk op n rel val r st [])
 | neg (a:Cd) (h:P a):Sh P (.mk 7 0 0 0 rf0 [] [a])
 | conj (a b:Cd) (ha:P a) (hb:P b):Sh P (.mk 8 0 0 0 rf0 [] [a,b])
 | disj (a b:Cd) (ha:P a) (hb:P b):Sh P (.mk 9 0 0 0 rf0 [] [a,b])
theorem cond_shape {d:Nat} {c:Cd} {left k:Nat} (h:condV (d+1) c left=some k):Sh (fun a=>∃ l k,condV d a l=some k) c:=by
 obtain⟨op,n,rel,val,r,st,ar⟩:=c
 rw [condV] at h
 split at h
 ·cases h
 ·split at h
  ·rename_i hh
   have hm:=foldM_mem h
   unfold headB at hh
   split at hh
   ·rename_i h0
    simp only [Bool.and_eq_true,decide_eq_true_eq] at hh
    have:ar=[]:=List.length_eq_zero_iff.1 hh.2
    subst this
    unfold argsN at h0
    refine .leaf op n rel val r st ?_ ?_ ?_ hh.1
    ·rintro rfl;cases h0
    ·rintro rfl;cases h0
    ·rintro rfl;cases h0
   ·rename_i h0
    simp only [Bool.and_eq_true,decide_eq_true_eq] at hh
    obtain⟨hk,hp⟩:=hh
    obtain⟨rfl,rfl,rfl,rfl,rfl⟩:=plain_zero hp
    unfold argsN at h0 hk
    by_cases c7:op=7
    ·subst c7
     obtain⟨a,rfl⟩:=len1 hk
     exact .neg a (hm a (by simp))
    ·rw [if_neg c7] at h0 hk
     by_cases c8:op=8
     ·subst c8
      obtain⟨a,b,rfl⟩:=len2 hk
      exact .conj a b (hm a (by simp)) (hm b (by simp))
     ·by_cases c9:op=9
      ·subst c9
       obtain⟨a,b,rfl⟩:=len2 hk
       exact .disj a b (hm a (by simp)) (hm b (by simp))
      ·rw [if_neg (by omega)] at h0
       exact absurd rfl h0
  ·cases h
theorem Sh.mono {P Q:Cd→Prop} {c:Cd} (h:Sh P c) (hpq:∀ a,P a→Q a):Sh Q c:=by
 cases h with
 | leaf op n rel val r st h7 h8 h9 h=>exact .leaf op n rel val r st h7 h8 h9 h
 | neg a h=>exact .neg a (hpq a h)
 | conj a b ha hb=>exact .conj a b (hpq a ha) (hpq b hb)
 | disj a b ha hb=>exact .disj a b (hpq a ha) (hpq b hb)
theorem condT_leaf {op n rel val:Int} {r:Rf} {st:List Int} (h7:¬ op=7) (h8:¬ op=8) (h9:¬ op=9):condT (.mk op n rel val r st [])=leafT op n rel val r st:=by
 rw [condT,joinT,if_neg h9,if_neg h8,if_neg h7]
theorem condT_neg (a:Cd):condT (.mk 7 0 0 0 rf0 [] [a])=tNot::withinT 3 a:=by
 rw [condT,condTs,condTs];rfl
theorem condT_conj (a b:Cd):condT (.mk 8 0 0 0 rf0 [] [a,b])=withinT 2 a++tAnd::withinT 3 b:=by
 rw [condT,condTs,condTs,condTs];rfl
theorem condT_disj (a b:Cd):condT (.mk 9 0 0 0 rf0 [] [a,b])=withinT 1 a++tOr::withinT 2 b:=by
 rw [condT,condTs,condTs,condTs];rfl
theorem within_at {k:Nat} {c:Cd} (h:¬ lvl c.op<k):withinT k c=condT c:=if_neg h
section
variable {ws:List Wd} (hg:GoodW ws)
include hg
end
end Go.Proofs.YtmepdfingcmkmaaGreatDoor
namespace Go.Proofs.YtmepdfingcmkmaaGreatDoor
open Go Y
set_option maxRecDepth 100000
set_option maxHeartbeats 4000000
theorem none_cd0 {c:Cd} (h:noneB c=true):c=cd0:=by
 obtain⟨op,n,rel,val,r,st,ar⟩:=c
 simp only [noneB,Bool.and_eq_true,decide_eq_true_eq] at h
 obtain⟨⟨rfl,h2⟩,h3⟩:=h
 obtain⟨rfl,rfl,rfl,rfl,rfl⟩:=plain_zero h2
 have:ar=[]:=List.length_eq_zero_iff.1 h3
 subst this
 rfl
theorem nums_facts {l:List Int} (h:numsB l=true):l ≠ []∧l.length≤8∧∀ n∈l,wgtB n=true:=by
 simp only [numsB,Bool.and_eq_true,decide_eq_true_eq,List.all_eq_true] at h
 exact⟨fun e=>by rw [e] at h;exact absurd h.1.1 (by decide),h.1.2,h.2⟩
section
variable {ws:List Wd} (hg:GoodW ws)
include hg
end
end Go.Proofs.YtmepdfingcmkmaaGreatDoor
namespace Go.Proofs.YtmepdfingcmkmaaGreatDoor
open Go Y
set_option maxRecDepth 100000
set_option maxHeartbeats 4000000
structure GapOK (g:List UInt8):Prop where
 sep:∃ c r,g=c::r∧isSep c
 skip:∀ r,stopB r=true→Skips g r
def TokOK (t:List UInt8):Prop:=∃ k,rightN k t=true
theorem decl_ne (d:De):declT d ≠ []:=by rw [declT];simp
theorem flat_len:∀ ds:List De,(ds.flatMap declT).length=cntT ds
 | []=>rfl
 | d::ds=>by rw [List.flatMap_cons,List.length_append,flat_len ds];rfl
def AllT (x:Toks):Prop:=∀ t∈x,TokOK t
theorem allT_nil:AllT []:=fun t h=>by simp at h
theorem allT_cons {t:List UInt8} {x:Toks} (h:TokOK t) (hx:AllT x):AllT (t::x):=fun u hu=>by
 rcases List.mem_cons.1 hu with rfl | hu
 ·exact h
 ·exact hx u hu
theorem allT_app {x y:Toks} (hx:AllT x) (hy:AllT y):AllT (x++y):=fun u hu=>by
 rcases List.mem_append.1 hu with hu | hu
 ·exact hx u hu
 ·exact hy u hu
theorem tok_name {t:List UInt8} (h:nameN t=true):TokOK t:=⟨1,h⟩
theorem tok_dig {n:Int} (h:natB n=true):TokOK (digT n):=⟨3,(digT_num h).1⟩
theorem tok_fix:∀ t∈keysL++marksL,TokOK t:=by
 intro t ht
 rcases List.mem_append.1 ht with h | h
 ·exact⟨2,(by decide:∀ t∈keysL,rightN 2 t=true) t h⟩
 ·exact⟨4,(by decide:∀ t∈marksL,rightN 4 t=true) t h⟩
theorem fixT {x:Toks} (h:∀ t∈x,t∈keysL++marksL):AllT x:=fun t ht=>tok_fix t (h t ht)
theorem ref_toks {r:Rf} (h:refB r=true):AllT (refT r)∧(refT r).length≤6:=by
 obtain⟨nm,m,pl,n⟩:=r
 rw [refB,Bool.and_eq_true] at h
 obtain⟨hn,h⟩:=h
 simp only [] at h hn
 have k1:TokOK tLB:=tok_fix _ (by decide)
 have k2:TokOK tRB:=tok_fix _ (by decide)
 have k3:TokOK tAll:=tok_fix _ (by decide)
 have k4:TokOK tPlus:=tok_fix _ (by decide)
 suffices hs:AllT (tailT ⟨nm,m,pl,n⟩)∧(tailT ⟨nm,m,pl,n⟩).length≤5 by
  exact⟨allT_cons (tok_name hn) hs.1,by show _+1≤6;omega⟩
 unfold tailT
 simp only []
 split
 ·exact⟨allT_cons k1 (allT_cons k3 (allT_cons k2 allT_nil)),by simp⟩
 ·rename_i h3
  split
  ·rename_i h2
   rw [if_neg (by omega),if_neg (by omega),if_pos h2,Bool.and_eq_true] at h
   exact⟨allT_cons k1 (allT_cons (tok_dig h.2) (allT_cons k2 allT_nil)),by simp⟩
  ·split
   ·rename_i h1
    rw [if_neg (by omega),if_pos h1,Bool.and_eq_true] at h
    split
    ·exact⟨allT_cons k1 (allT_cons (tok_name h.1) (allT_cons k4 (allT_cons (tok_dig h.2) (allT_cons k2 allT_nil)))),by simp⟩
    ·exact⟨allT_cons k1 (allT_cons (tok_name h.1) (allT_cons k2 allT_nil)),by simp⟩
   ·exact⟨allT_nil,by simp⟩
theorem flat_toks {α:Type} {f:α→Toks} {b:Nat}:∀ {l:List α},(∀ a∈l,AllT (f a)∧(f a).length≤b)→AllT (l.flatMap f)∧(l.flatMap f).length≤b * l.length
 | [],_=>⟨allT_nil,by simp⟩
 | a::l,h=>by
  have h1:=h a (List.mem_cons_self ..)
  have h2:=flat_toks (f:=f) (b:=b) (l:=l) fun x hx=>h x (List.mem_cons_of_mem _ hx)
  rw [List.flatMap_cons]
  refine⟨allT_app h1.1 h2.1,?_⟩
  rw [List.length_append,List.length_cons,Nat.mul_succ]
  omega
theorem sep_toks {α:Type} {f:α→Toks} {b:Nat} {l:List α} (h:∀ a∈l,AllT (f a)∧(f a).length≤b):AllT (sepT f l)∧(sepT f l).length≤(b+1) * l.length:=by
 cases l with
 | nil=>exact⟨allT_nil,by simp [sepT]⟩
 | cons a l=>
  have h1:=h a (List.mem_cons_self ..)
  have h2:=flat_toks (f:=fun x=>tComma::f x) (b:=b+1) (l:=l) fun x hx=>⟨allT_cons (tok_fix _ (by decide)) (h x (List.mem_cons_of_mem _ hx)).1,by have:=(h x (List.mem_cons_of_mem _ hx)).2;simp only [List.length_cons];omega⟩
  rw [sepT]
  refine⟨allT_app h1.1 h2.1,?_⟩
  rw [List.length_append,List.length_cons,Nat.mul_succ]
  omega
theorem rel_tok (k:Int):TokOK (relT k):=by
 refine tok_fix _ ?_
 unfold relT
 split
 ·decide
 ·split
  ·decide
  ·split <;> decide
theorem leaf_toks {op n rel val:Int} {r:Rf} {st:List Int} (hb:leafB op n rel val r st=true):AllT (leafT op n rel val r st)∧(leafT op n rel val r st).length≤25:=by
 unfold leafB at hb
 unfold leafT
 by_cases c6:op=6
 ·rw [if_neg (by omega),if_neg (by omega),if_pos c6] at hb
  simp only [Bool.and_eq_true,decide_eq_true_eq] at hb
  obtain⟨⟨⟨⟨⟨⟨b1,b2⟩,b3⟩,b4⟩,b5⟩,b6⟩,b7⟩:=hb
  rw [if_pos c6]
  have hr:=ref_toks b1
  refine⟨allT_app (fixT (by decide)) (allT_app hr.1 (allT_cons (tok_fix _ (by decide)) (allT_cons (tok_dig b4) (allT_cons (tok_fix _ (by decide)) (allT_cons (rel_tok rel) (allT_cons (tok_dig b3) allT_nil)))))),?_⟩
  simp only [List.length_append,List.length_cons,List.length_nil];omega
 ·rw [if_neg c6]
  by_cases c5:op=5
  ·rw [if_neg (by omega),if_pos c5] at hb
   simp only [Bool.and_eq_true,decide_eq_true_eq] at hb
   obtain⟨⟨⟨⟨b1,b2⟩,b3⟩,b4⟩,b5⟩:=hb
   rw [if_pos c5]
   have hr:=ref_toks b1
   have hset:=setB_facts b5
   have hl8:st.length≤8:=by
    simp only [setB,Bool.and_eq_true,decide_eq_true_eq] at b5
    exact b5.1.2
   have hs:=sep_toks (f:=fun n=>[digT n]) (b:=1) (l:=st) fun a ha=>⟨allT_cons (tok_dig (hset.2.1 a ha)) allT_nil,by simp⟩
   refine⟨allT_app hr.1 (allT_app (fixT (by decide)) (allT_app hs.1 (fixT (by decide)))),?_⟩
   simp only [List.length_append,List.length_cons,List.length_nil];omega
  ·rw [if_neg c5]
   by_cases c1:op=1∨op=2∨op=3∨op=4
   ·rw [if_pos c1] at hb
    simp only [Bool.and_eq_true,decide_eq_true_eq] at hb
    have hr:=ref_toks hb.1.1.1.1
    refine⟨allT_app hr.1 (allT_cons (rel_tok op) (allT_cons (tok_dig hb.1.1.1.2) allT_nil)),?_⟩
    simp only [List.length_append,List.length_cons,List.length_nil];omega
   ·rw [if_neg c1,if_neg c5,if_neg c6] at hb
    cases hb
inductive ShN (P:Nat→Cd→Nat→Prop):Nat→Cd→Nat→Prop
 | leaf (op n rel val:Int) (r:Rf) (st:List Int) (l:Nat) (h7:¬ op=7) (h8:¬ op=8) (h9:¬ op=9) (h:leafB op n rel val r st=true):ShN P (l+1) (.mk op n rel val r st []) l
 | neg (a:Cd) (l k:Nat) (h:P l a k):ShN P (l+1) (.mk 7 0 0 0 rf0 [] [a]) k
 | conj (a b:Cd) (l m k:Nat) (ha:P l a m) (hb:P m b k):ShN P (l+1) (.mk 8 0 0 0 rf0 [] [a,b]) k
 | disj (a b:Cd) (l m k:Nat) (ha:P l a m) (hb:P m b k):ShN P (l+1) (.mk 9 0 0 0 rf0 [] [a,b]) k
theorem cond_shapeN {d:Nat} {c:Cd} {left k:Nat} (h:condV (d+1) c left=some k):ShN (fun l a k=>condV d a l=some k) left c k:=by
 obtain⟨op,n,rel,val,r,st,ar⟩:=c
 rw [condV] at h
 split at h
 ·cases h
 ·rename_i hl0
  obtain⟨l,rfl⟩:∃ l,left=l+1:=⟨left - 1,by omega⟩
  rw [Nat.add_sub_cancel] at h
  split at h
  ·rename_i hh
   unfold headB at hh
   split at hh
   ·rename_i h0
    simp only [Bool.and_eq_true,decide_eq_true_eq] at hh
    have:ar=[]:=List.length_eq_zero_iff.1 hh.2
    subst this
    unfold argsN at h0
    injection h with h
    have h:l=k:=h
    subst h
    refine .leaf op n rel val r st l ?_ ?_ ?_ hh.1
    ·rintro rfl;cases h0
    ·rintro rfl;cases h0
    ·rintro rfl;cases h0
   ·rename_i h0
    simp only [Bool.and_eq_true,decide_eq_true_eq] at hh
    obtain⟨hk,hp⟩:=hh
    obtain⟨rfl,rfl,rfl,rfl,rfl⟩:=plain_zero hp
    have two:∀ {a b:Cd},[a,b].foldlM (fun l c=>condV d c l) l=some k→∃ m,condV d a l=some m∧condV d b m=some k:=fun {a b} h=>by
     rw [List.foldlM_cons] at h
     cases h1:condV d a l with
     | none=>rw [h1] at h;cases h
     | some m=>
      rw [h1] at h
      have h:[b].foldlM (fun l c=>condV d c l) m=some k:=h
      rw [List.foldlM_cons] at h
      cases h2:condV d b m with
      | none=>rw [h2] at h;cases h
      | some m2=>
       rw [h2] at h
       exact⟨m,rfl,by rw [h2];exact h⟩
    unfold argsN at h0 hk
    by_cases c7:op=7
    ·subst c7
     obtain⟨a,rfl⟩:=len1 hk
     rw [List.foldlM_cons] at h
     cases h1:condV d a l with
     | none=>rw [h1] at h;cases h
     | some m=>
      rw [h1] at h
      exact .neg a l k (by rw [h1];exact h)
    ·rw [if_neg c7] at h0 hk
     by_cases c8:op=8
     ·subst c8
      obtain⟨a,b,rfl⟩:=len2 hk
      obtain⟨m,h1,h2⟩:=two h
      exact .conj a b l m k h1 h2
     ·by_cases c9:op=9
      ·subst c9
       obtain⟨a,b,rfl⟩:=len2 hk
       obtain⟨m,h1,h2⟩:=two h
       exact .disj a b l m k h1 h2
      ·rw [if_neg (by omega)] at h0
       exact absurd rfl h0
  ·cases h
theorem within_toks {k:Nat} {c:Cd} (h:AllT (condT c)):AllT (withinT k c)∧(withinT k c).length≤(condT c).length+2:=by
 by_cases hl:lvl c.op<k
 ·rw [withinT,inT,if_pos hl]
  exact⟨allT_cons (tok_fix _ (by decide)) (allT_app h (fixT (by decide))),by simp⟩
 ·rw [within_at hl]
  exact⟨h,by omega⟩
theorem cond_toks:∀ (d:Nat) (c:Cd) (left k:Nat),condV d c left=some k→AllT (condT c)∧(condT c).length+2+28 * k≤28 * left
 | 0,_,_,_,h=>by cases h
 | d+1,c,left,k,h=>by
  cases cond_shapeN h with
  | leaf op n rel val r st l h7 h8 h9 hb=>
   rw [condT_leaf h7 h8 h9]
   have:=leaf_toks hb
   exact⟨this.1,by omega⟩
  | neg a l k ha=>
   have ia:=cond_toks d a l k ha
   have wa:=within_toks (k:=3) ia.1
   rw [condT_neg]
   exact⟨allT_cons (tok_fix _ (by decide)) wa.1,by simp only [List.length_cons];omega⟩
  | conj a b l m k ha hb=>
   have ia:=cond_toks d a l m ha
   have ib:=cond_toks d b m k hb
   have wa:=within_toks (k:=2) ia.1
   have wb:=within_toks (k:=3) ib.1
   rw [condT_conj]
   exact⟨allT_app wa.1 (allT_cons (tok_fix _ (by decide)) wb.1),by simp only [List.length_append,List.length_cons];omega⟩
  | disj a b l m k ha hb=>
   have ia:=cond_toks d a l m ha
   have ib:=cond_toks d b m k hb
   have wa:=within_toks (k:=1) ia.1
   have wb:=within_toks (k:=2) ib.1
   rw [condT_disj]
   exact⟨allT_app wa.1 (allT_cons (tok_fix _ (by decide)) wb.1),by simp only [List.length_append,List.length_cons];omega⟩
theorem int_toks {n:Int} (h:wgtB n=true):AllT (intT n)∧(intT n).length≤2:=by
 simp only [wgtB,Bool.and_eq_true,decide_eq_true_eq] at h
 unfold intT
 split
 ·exact⟨allT_cons (tok_fix _ (by decide)) (allT_cons (tok_dig (by simp only [natB,Bool.and_eq_true,decide_eq_true_eq];omega)) allT_nil),by simp⟩
 ·exact⟨allT_cons (tok_dig (by simp only [natB,Bool.and_eq_true,decide_eq_true_eq];omega)) allT_nil,by simp⟩
theorem nums_toks {l:List Int} (h:numsB l=true):AllT (numsT l)∧(numsT l).length≤16:=by
 obtain⟨h1,h2,h3⟩:=nums_facts h
 have:=flat_toks (f:=intT) (b:=2) (l:=l) fun a ha=>int_toks (h3 a ha)
 exact⟨this.1,by have h4:=this.2;unfold numsT;omega⟩
theorem cases_toks:∀ {l:List Cs},casesT l=true→AllT (casesTx l)∧(casesTx l).length≤858 * l.length
 | [],_=>⟨allT_nil,by simp [casesTx]⟩
 | [c],h=>by
  simp only [casesT,Bool.and_eq_true] at h
  have hn:=nums_toks h.1
  rw [casesTx]
  exact⟨allT_cons (tok_fix _ (by decide)) (allT_cons (tok_fix _ (by decide)) hn.1),by simp only [List.length_cons,List.length_nil];omega⟩
 | c::d::r,h=>by
  simp only [casesT,Bool.and_eq_true] at h
  obtain⟨⟨hn,hc⟩,hr⟩:=h
  have hn:=nums_toks hn
  obtain⟨k,hk⟩:=Option.isSome_iff_exists.1 hc
  have hc:=cond_toks 8 c.cond 30 k hk
  have ih:=cases_toks (l:=d::r) hr
  rw [casesTx]
  refine⟨allT_app hc.1 (allT_cons (tok_fix _ (by decide)) (allT_app hn.1 (allT_cons (tok_fix _ (by decide)) ih.1))),?_⟩
  have:=ih.2
  simp only [List.length_append,List.length_cons] at this ⊢
  omega
theorem rule_toks {l:List Cs} (h:casesB l=true):AllT (ruleT l)∧(ruleT l).length≤10300:=by
 simp only [casesB,Bool.and_eq_true,decide_eq_true_eq] at h
 obtain⟨⟨h1,h2⟩,h3⟩:=h
 have:=cases_toks h3
 refine⟨allT_cons (tok_fix _ (by decide)) (allT_app this.1 (fixT (by decide))),?_⟩
 rw [ruleT]
 simp only [List.length_append,List.length_cons,List.length_nil]
 have h4:=this.2
 omega
theorem refs_toks {key:List UInt8} {l:List Rf} (hk:key∈keysL++marksL) (h:∀ r∈l,refB r=true) (hl:l.length≤8):AllT (refsT key l)∧(refsT key l).length≤60:=by
 unfold refsT
 split
 ·exact⟨allT_nil,by simp⟩
 ·have:=sep_toks (f:=refT) (b:=6) (l:=l) fun a ha=>ref_toks (h a ha)
  exact⟨allT_cons (tok_fix _ hk) this.1,by have h2:=this.2;simp only [List.length_cons];omega⟩
theorem decl_toks {d:De} (hv:declB d=true):AllT (declT d)∧(declT d).length≤10400:=by
 obtain⟨k,n,nm,pl,rs,cs⟩:=d
 simp only [declB,Bool.and_eq_true,decide_eq_true_eq,List.all_eq_true] at hv
 obtain⟨⟨⟨v1,v2⟩,v3⟩,v4⟩:=hv
 suffices hs:AllT (headT ⟨k,n,nm,pl,rs,cs⟩)∧(headT ⟨k,n,nm,pl,rs,cs⟩).length≤10399 by
  exact⟨allT_app hs.1 (fixT (by decide)),by rw [declT,List.length_append];simp only [List.length_cons,List.length_nil];omega⟩
 unfold kindB at v4
 unfold headT
 simp only [] at v4 ⊢
 have hd:=tok_dig v1
 by_cases c1:k=1
 ·rw [if_pos c1]
  exact⟨allT_cons (tok_fix _ (by decide)) (allT_cons hd allT_nil),by simp⟩
 rw [if_neg c1] at v4 ⊢
 by_cases c2:k=2
 ·rw [if_pos c2] at v4 ⊢
  simp only [Bool.and_eq_true,decide_eq_true_eq] at v4
  exact⟨allT_cons (tok_fix _ (by decide)) (allT_cons (tok_name v4.1.1.1) (allT_cons (tok_fix _ (by decide)) (allT_cons hd allT_nil))),by simp⟩
 rw [if_neg c2] at v4 ⊢
 by_cases c3:k=3
 ·rw [if_pos c3] at v4 ⊢
  simp only [Bool.and_eq_true,Bool.or_eq_true,decide_eq_true_eq] at v4
  obtain⟨⟨v0,v5⟩,v6⟩:=v4
  have hr:=refs_toks (key:=tFrom) (by decide) v3 v2
  have hc:=rule_toks v6
  have hp:AllT (if pl=[] then [] else [tLB,pl,tRB])∧(if pl=[] then [] else [tLB,pl,tRB]:Toks).length≤3:=by
   split
   ·exact⟨allT_nil,by simp⟩
   ·rename_i h
    exact⟨allT_cons (tok_fix _ (by decide)) (allT_cons (tok_name (v5.resolve_left h)) (fixT (by decide))),by simp⟩
  refine⟨allT_app (allT_cons (tok_fix _ (by decide)) (allT_cons (tok_name v0) allT_nil)) (allT_app hp.1 (allT_app (allT_cons (tok_fix _ (by decide)) (allT_cons hd allT_nil)) (allT_app hr.1 (allT_cons (tok_fix _ (by decide)) hc.1)))),?_⟩
  have h1:=hp.2
  have h2:=hr.2
  have h3:=hc.2
  simp only [List.length_append,List.length_cons,List.length_nil] at h1 ⊢
  omega
 rw [if_neg c3] at v4 ⊢
 by_cases c4:k=4
 ·rw [if_pos c4] at v4 ⊢
  simp only [Bool.and_eq_true,decide_eq_true_eq] at v4
  have hr:=refs_toks (key:=tSeeing) (by decide) v3 v2
  refine⟨allT_app (allT_cons (tok_fix _ (by decide)) (allT_cons (tok_name v4.1.1) (allT_cons (tok_fix _ (by decide)) (allT_cons hd allT_nil)))) hr.1,?_⟩
  have h2:=hr.2
  simp only [List.length_append,List.length_cons,List.length_nil];omega
 rw [if_neg c4] at v4 ⊢
 by_cases c5:k=5
 ·rw [if_pos c5] at v4 ⊢
  simp only [Bool.and_eq_true,decide_eq_true_eq] at v4
  have hr:=refs_toks (key:=tFrom) (by decide) v3 v2
  have hc:=rule_toks v4.2
  refine⟨allT_cons (tok_fix _ (by decide)) (allT_app hr.1 (allT_cons (tok_fix _ (by decide)) hc.1)),?_⟩
  have h2:=hr.2
  have h3:=hc.2
  simp only [List.length_append,List.length_cons];omega
 ·rw [if_neg c5]
  exact⟨allT_nil,by simp⟩
theorem tok_len {t:List UInt8} (h:TokOK t):1≤t.length∧t.length≤10:=by
 obtain⟨k,h⟩:=h
 exact right_len h
theorem spW_len:∀ {x:Toks} (b:Bool),AllT x→(spW b x).length≤11 * x.length
 | [],_,_=>by simp [spW]
 | t::x,b,h=>by
  have h1:=tok_len (h t (List.mem_cons_self ..))
  have h2:=spW_len (x:=x) true fun u hu=>h u (List.mem_cons_of_mem _ hu)
  have h3:(if b=true then [32] else []:List UInt8).length≤1:=by cases b <;> simp
  rw [spW,List.length_append,List.length_append,List.length_cons]
  omega
theorem valid_decl {ds:List De} (h:validB ds=true):ds.length≤30∧∀ d∈ds,declB d=true:=by
 simp only [validB,Bool.and_eq_true,decide_eq_true_eq,List.all_eq_true] at h
 exact h
theorem name_len {t:List UInt8} (h:nameN t=true):t.length≤10:=(tok_len (tok_name h)).2
theorem leafB_facts {op n rel val:Int} {r:Rf} {st:List Int} (hb:leafB op n rel val r st=true):refB r=true∧(op=6→natB n=true∧natB val=true∧1≤rel∧rel≤4)∧(op=5→setB st=true)∧(¬ op=5→¬ op=6→natB n=true∧1≤op∧op≤4):=by
 unfold leafB at hb
 by_cases c6:op=6
 ·rw [if_neg (by omega),if_neg (by omega),if_pos c6] at hb
  simp only [Bool.and_eq_true,decide_eq_true_eq] at hb
  obtain⟨⟨⟨⟨⟨⟨b1,b2⟩,b3⟩,b4⟩,b5⟩,b6⟩,b7⟩:=hb
  exact⟨b1,fun _=>⟨b3,b4,b5,b6⟩,fun h=>by omega,fun _ h=>absurd c6 h⟩
 ·by_cases c5:op=5
  ·rw [if_neg (by omega),if_pos c5] at hb
   simp only [Bool.and_eq_true,decide_eq_true_eq] at hb
   obtain⟨⟨⟨⟨b1,b2⟩,b3⟩,b4⟩,b5⟩:=hb
   exact⟨b1,fun h=>absurd h c6,fun _=>b5,fun h=>absurd c5 h⟩
  ·by_cases c1:op=1∨op=2∨op=3∨op=4
   ·rw [if_pos c1] at hb
    simp only [Bool.and_eq_true,decide_eq_true_eq] at hb
    exact⟨hb.1.1.1.1,fun h=>absurd h c6,fun h=>absurd h c5,fun _ _=>⟨hb.1.1.1.2,by omega,by omega⟩⟩
   ·rw [if_neg c1,if_neg c5,if_neg c6] at hb
    cases hb
theorem refB_name {r:Rf} (h:refB r=true):r.name ≠ []:=by
 rw [refB,Bool.and_eq_true] at h
 exact(name_facts h.1).1
theorem leafB_wk {op n rel val:Int} {r:Rf} {st:List Int} (h:leafB op n rel val r st=true):r.name ≠ []∧(op=5→1≤st.length)∧st.length≤100:=by
 have hf:=leafB_facts h
 refine⟨refB_name hf.1,fun h5=>?_,?_⟩
 ·have:=hf.2.2.1 h5
  simp only [setB,Bool.and_eq_true,decide_eq_true_eq] at this
  omega
 ·by_cases h5:op=5
  ·have:=hf.2.2.1 h5
   simp only [setB,Bool.and_eq_true,decide_eq_true_eq] at this
   omega
  ·unfold leafB at h
   split at h
   ·simp only [Bool.and_eq_true,decide_eq_true_eq] at h
    rw [h.2];decide
   ·split at h
    ·simp only [Bool.and_eq_true,decide_eq_true_eq] at h
     rw [h.2];decide
    ·cases h
theorem wk_of:∀ (d:Nat) (c:Cd) (left k:Nat),condV d c left=some k→WkOK c
 | 0,_,_,_,h=>by rw [condV] at h;cases h
 | d+1,c,left,k,h=>by
  have hs:=cond_shape h
  cases hs with
  | leaf op n rel val r st h7 h8 h9 hb=>
   rw [WkOK]
   exact⟨⟨fun _=>.inr (leafB_wk hb),fun _=>rfl⟩,by decide,by rw [WkOKs];trivial⟩
  | neg a ha=>
   obtain⟨l,k,ha⟩:=ha
   rw [WkOK,WkOKs,WkOKs]
   exact⟨⟨(fun h=>by cases h),fun h=>absurd h (by decide)⟩,by show 1≤100;decide,wk_of d a l k ha,trivial⟩
  | conj a b ha hb=>
   obtain⟨l,k,ha⟩:=ha
   obtain⟨l',k',hb⟩:=hb
   rw [WkOK,WkOKs,WkOKs,WkOKs]
   exact⟨⟨(fun h=>by cases h),fun h=>absurd h (by decide)⟩,by show 2≤100;decide,wk_of d a l k ha,wk_of d b l' k' hb,trivial⟩
  | disj a b ha hb=>
   obtain⟨l,k,ha⟩:=ha
   obtain⟨l',k',hb⟩:=hb
   rw [WkOK,WkOKs,WkOKs,WkOKs]
   exact⟨⟨(fun h=>by cases h),fun h=>absurd h (by decide)⟩,by show 2≤100;decide,wk_of d a l k ha,wk_of d b l' k' hb,trivial⟩
theorem wk_cd0:WkOK cd0:=by
 rw [cd0,WkOK,WkOKs]
 exact⟨⟨fun _=>.inl rfl,fun _=>rfl⟩,by decide,trivial⟩
theorem numsB_wk {l:List Int} (h:numsB l=true):(∀ x∈l,-9999≤x∧x≤9999)∧l.length≤100:=by
 obtain⟨_,h2,h3⟩:=nums_facts h
 refine⟨fun x hx=>?_,by omega⟩
 have:=h3 x hx
 simp only [wgtB,Bool.and_eq_true,decide_eq_true_eq] at this
 exact this
structure CaV (c:Cs):Prop where
 ok:CaOK c
 one:∀ l d,(condI l d c.cond).length≤30
theorem note_len (k a:Int) (nm:List UInt8):(noteI k a nm).length≤1:=by
 unfold noteI
 split <;> simp
mutual
theorem condI_len (l:List De) (x:De):∀ (d:Nat) (c:Cd) (left k:Nat),condV d c left=some k→(condI l x c).length+k≤left
 | 0,_,_,_,h=>by rw [condV] at h;cases h
 | d+1, .mk op n rel val r st [],left,k,h=>by
  rw [condV] at h
  split at h
  ·cases h
  ·split at h
   ·rw [List.foldlM_nil] at h
    injection h with h
    rw [condI]
    split
    ·simp;omega
    ·have:=note_len (testI l x op n val r st) l.length r.name
     omega
   ·cases h
 | d+1, .mk op n rel val r st (a::az),left,k,h=>by
  rw [condV] at h
  split at h
  ·cases h
  ·split at h
   ·have:=condIs_len l x d (a::az) (left - 1) k h
    rw [condIs] at this
    rw [condI];omega
   ·cases h
theorem condIs_len (l:List De) (x:De):∀ (d:Nat) (az:List Cd) (left k:Nat),az.foldlM (fun l c=>condV d c l) left=some k→(condIs l x az).length+k≤left
 | d,[],left,k,h=>by
  rw [List.foldlM_nil] at h
  injection h with h
  rw [condIs];simp;omega
 | d,a::az,left,k,h=>by
  rw [List.foldlM_cons] at h
  cases hc:condV d a left with
  | none=>rw [hc] at h;cases h
  | some m=>
   rw [hc] at h
   have h1:=condI_len l x d a left m hc
   have h2:=condIs_len l x d az m k h
   rw [condIs,List.length_append];omega
end
theorem casesT_wk:∀ {l:List Cs},casesT l=true→∀ c∈l,CaV c
 | [],_,c,hc=>by cases hc
 | [x],h,c,hc=>by
  simp only [casesT,Bool.and_eq_true] at h
  rw [List.mem_singleton.1 hc]
  have hn:=numsB_wk h.1
  have hz:=none_cd0 h.2
  exact⟨⟨by rw [hz];exact wk_cd0,hn.1,hn.2⟩,fun l d=>by rw [hz,cd0,condI];simp⟩
 | x::y::r,h,c,hc=>by
  simp only [casesT,Bool.and_eq_true] at h
  obtain⟨⟨h1,h0⟩,h2⟩:=h
  rcases List.mem_cons.1 hc with rfl | hc
  ·have hn:=numsB_wk h1
   obtain⟨k,hk⟩:=Option.isSome_iff_exists.1 h0
   exact⟨⟨wk_of 8 c.cond 30 k hk,hn.1,hn.2⟩,fun l d=>by have:=condI_len l d 8 c.cond 30 k hk;omega⟩
  ·exact casesT_wk (l:=y::r) h2 c hc
theorem casesB_wk {l:List Cs} (h:casesB l=true):l.length≤12∧∀ c∈l,CaV c:=by
 simp only [casesB,Bool.and_eq_true,decide_eq_true_eq] at h
 exact⟨h.1.2,casesT_wk h.2⟩
structure DcV (d:De):Prop where
 ok:DcOK d
 n:0≤d.n∧d.n≤9999
 refs:d.refs.length≤8
 few:d.cases.length≤12
 cases:∀ c∈d.cases,CaV c
theorem declB_wk {d:De} (h:declB d=true):DcV d:=by
 simp only [declB,Bool.and_eq_true,decide_eq_true_eq,List.all_eq_true] at h
 obtain⟨⟨⟨h1,h2⟩,h3⟩,h4⟩:=h
 have hn:0≤d.n∧d.n≤9999:=by
  simp only [natB,Bool.and_eq_true,decide_eq_true_eq] at h1;exact h1
 have hr:∀ r∈d.refs,r.name ≠ []:=fun r hr=>refB_name (h3 r hr)
 have key:∀ (hk:d.kind=1∨d.kind=2∨d.kind=3∨d.kind=4∨d.kind=5) (hb:d.kind=1∨d.kind=5→d.name=[]) (hm:d.kind=2∨d.kind=3∨d.kind=4→d.name ≠ []) (hp:¬ d.kind=3→d.plate=[]) (hc:d.cases.length≤12∧∀ c∈d.cases,CaV c),DcV d:=fun hk hb hm hp hc=>
  ⟨⟨⟨hk,hb,hm,hp,hr⟩,by omega,by have:=hc.1;omega,fun c hx=>(hc.2 c hx).ok⟩,hn,h2,hc.1,hc.2⟩
 have h0:d.cases.length=0→d.cases.length≤12∧∀ c∈d.cases,CaV c:=fun e=>⟨by omega,fun c hc=>by rw [List.eq_nil_of_length_eq_zero e] at hc;cases hc⟩
 unfold kindB at h4
 split at h4
 ·rename_i k
  simp only [Bool.and_eq_true,decide_eq_true_eq] at h4
  exact key (.inl k) (fun _=>h4.1.1.1) (fun h=>by omega) (fun _=>h4.1.1.2) (h0 h4.2)
 ·split at h4
  ·rename_i k
   simp only [Bool.and_eq_true,decide_eq_true_eq] at h4
   exact key (.inr (.inl k)) (fun h=>by omega) (fun _=>(name_facts h4.1.1.1).1) (fun _=>h4.1.1.2) (h0 h4.2)
  ·split at h4
   ·rename_i k
    simp only [Bool.and_eq_true,Bool.or_eq_true,decide_eq_true_eq] at h4
    exact key (.inr (.inr (.inl k))) (fun h=>by omega) (fun _=>(name_facts h4.1.1).1) (fun h=>absurd k h) (casesB_wk h4.2)
   ·split at h4
    ·rename_i k
     simp only [Bool.and_eq_true,decide_eq_true_eq] at h4
     exact key (.inr (.inr (.inr (.inl k)))) (fun h=>by omega) (fun _=>(name_facts h4.1.1).1) (fun _=>h4.1.2) (h0 h4.2)
    ·split at h4
     ·rename_i k
      simp only [Bool.and_eq_true,decide_eq_true_eq] at h4
      exact key (.inr (.inr (.inr (.inr k)))) (fun _=>h4.1.1.2) (fun h=>by omega) (fun _=>h4.1.2) (casesB_wk h4.2)
     ·cases h4
theorem valid_dcs {ds:List De} (h:validB ds=true):ds.length≤30∧∀ d∈ds,DcV d:=by
 obtain⟨h1,h2⟩:=valid_decl h
 exact⟨h1,fun d hd=>declB_wk (h2 d hd)⟩
theorem refsI_len (l:List De) (d:De):∀ (rs done:List Rf),(refsI l d done rs).length≤2 * rs.length
 | [],_=>by rw [refsI];simp
 | r::rs,done=>by
  have h1:=refsI_len l d rs (done++[r])
  have h2:=note_len (refI l d r) l.length r.name
  rw [refsI,List.length_append,List.length_append,List.length_cons]
  have h3:(if r∈done then [(⟨2,l.length,r.name⟩:Iss)] else []).length≤1:=by split <;> simp
  omega
theorem casesI_len (l:List De) (d:De) (g:Int):∀ cs:List Cs,(∀ c∈cs,CaV c)→(casesI l d g cs).length≤31 * cs.length
 | [],_=>by show 0≤_;omega
 | c::cs,h=>by
  have h1:=casesI_len l d g cs fun x hx=>h x (List.mem_cons_of_mem _ hx)
  have h2:=(h c (List.mem_cons_self ..)).one l d
  have h3:(if rowI d c.nums g=true then [] else [(⟨9,l.length,[]⟩:Iss)]).length≤1:=by split <;> simp
  rw [casesI_step,List.length_append,List.length_append,List.length_cons]
  omega
theorem oneI_len (l:List De) {d:De} (g:Int) (h:DcV d):(oneI l d g).length≤400:=by
 have h1:=refsI_len l d d.refs []
 have h2:=casesI_len l d g d.cases h.cases
 have h3:(twiceI l d).length≤1:=by unfold twiceI;split <;> simp
 have h4:(cardI l d).length≤1:=by unfold cardI;split <;> simp
 have h5:(plateI l d).length≤1:=by unfold plateI;repeat' (first | (split;rotate_left) | simp)
 have r1:=h.refs
 have r2:=h.few
 unfold oneI
 repeat' split
 all_goals simp only [List.length_append,List.length_cons,List.length_nil]
 all_goals omega
theorem eachI_len (g:Int):∀ (r l:List De),(∀ d∈r,DcV d)→(eachI g l r).length≤400 * r.length
 | [],_,_=>by rw [eachI];simp
 | d::r,l,h=>by
  have h1:=eachI_len g r (l++[d]) fun x hx=>h x (List.mem_cons_of_mem _ hx)
  have h2:=oneI_len l g (h d (List.mem_cons_self ..))
  rw [eachI,List.length_append,List.length_cons];omega
theorem headI_len (ds:List De):(headI ds).length≤1:=by
 unfold headI
 split
 ·simp
 ·split <;> simp
set_option maxHeartbeats 40000000
theorem pow_bd {W N m:Nat} {q:Int} (hW:W≤4 ^ N) (hN:N+m≤8) (hq:1≤m→2≤q∧q≤4) (j:Nat) (hj:j≤m):0≤(W:Int) * q ^ j∧(W:Int) * q ^ j≤65536:=by
 have h8:4 ^ N * 4 ^ j≤65536:=by
  rw [← Nat.pow_add]
  exact Nat.le_trans (Nat.pow_le_pow_right (by decide) (show N+j≤8 by omega)) (by decide)
 by_cases h0:j=0
 ·subst h0
  rw [Int.pow_zero,Int.mul_one]
  rw [Nat.pow_zero,Nat.mul_one] at h8
  omega
 ·obtain⟨c,rfl⟩:∃ c:Nat,q=c:=⟨q.toNat,by have:=hq (by omega);omega⟩
  have hc:c≤4:=by have:=hq (by omega);omega
  have h1:W * c ^ j≤65536:=Nat.le_trans (Nat.mul_le_mul hW (Nat.pow_le_pow_left hc j)) h8
  have e:(W:Int) * (c:Int) ^ j=((W * c ^ j:Nat):Int):=by rw [Int.natCast_mul,Int.natCast_pow]
  rw [e];omega
theorem worlds_le:∀ (r l:List De),(∀ d∈r,d.kind=3∨d.kind=4→d.n≤4)→worldsI l r≤4 ^ nodesI l r
 | [],l,_=>Nat.le_refl _
 | d::r,l,h=>by
  rw [worldsI,nodesI,Nat.pow_add]
  refine Nat.mul_le_mul ?_ (worlds_le r _ fun x hx=>h x (List.mem_cons_of_mem _ hx))
  by_cases hk:d.kind=3∨d.kind=4
  ·have:=h d (List.mem_cons_self ..) hk
   exact Nat.pow_le_pow_left (by omega) _
  ·have:memI l d=0:=by
    unfold memI
    rw [if_neg (by omega),if_neg (by omega)]
   rw [this];exact Nat.le_refl _
theorem count_step {ds:List De} {k:Nat} (hk:k<ds.length):nodesI [] (ds.take (k+1))=nodesI [] (ds.take k)+memI (ds.take k) (ds.getD k de0)∧worldsI [] (ds.take (k+1))=worldsI [] (ds.take k) * (ds.getD k de0).n.toNat ^ memI (ds.take k) (ds.getD k de0)∧gainsI (ds.take (k+1))=gainsI (ds.take k)+(if (ds.getD k de0).kind=5 then 1 else 0):=by
 rw [take_succ_getD de0 hk]
 have h:=nodesI_app (ds.take k) [] [ds.getD k de0]
 refine⟨by rw [h.1];rfl,by rw [h.2];show _ * (_ * 1)=_;rw [Nat.mul_one];rfl,?_⟩
 rw [gainsI,gainsI,List.filter_append,List.length_append,List.filter_cons]
 by_cases h5:(ds.getD k de0).kind=5
 ·rw [if_pos h5,if_pos (by rw [decide_eq_true h5])];rfl
 ·rw [if_neg h5,if_neg (by rw [decide_eq_false h5];simp)];rfl
theorem nodes_mono {ds:List De} (k:Nat):nodesI [] (ds.take k)≤nodesI [] ds:=by
 have h:=(nodesI_app (ds.take k) [] (ds.drop k)).1
 rw [List.take_append_drop] at h
 omega
theorem size_full {ds:List De} {g:Int} (h:eachI g [] ds=[]) {k:Nat} (hk:k<ds.length) (h3:(ds.getD k de0).kind=3) (hp:¬ (ds.getD k de0).plate=[]):sizeV ds (ds.getD k de0).plate=sizeV (ds.take k) (ds.getD k de0).plate:=by
 have h1:=eachI_at ds [] h k hk
 rw [List.nil_append] at h1
 obtain⟨t,ht,_⟩:=oneI_plate h1 h3 hp
 have:=fstV_app (m:=ds.drop k) ht
 rw [List.take_append_drop] at this
 rw [sizeV,sizeV,this,ht]
theorem big_h {ds:List De} (b:Nat) (l:List Iss) (hv:ds.length≤30) {g:Int} (hno:eachI g [] ds=[]):HoldsG cx 54 [.ptr 0 0 0] (ckS ds b (mapI ds) l) (ckQ (ckS ds b (mapI ds) l) (.bool (bigI ds))):=by
 have hcs:CkS ds ds.length (mapI ds):=⟨fun nm hn=>by rw [List.take_length];exact find_at ds hn,hv,Nat.le_refl _⟩
 have hm:(ds.map De.cells).length=ds.length:=List.length_map ..
 refine holdsN_of_vc Tryz.func54 rfl rfl rfl ?_
 refine⟨Nat,fun k=>[(0, .ptr 0 0 0),(3, .p (i64 (nodesI [] (ds.take k):Nat))),(4, .p (i64 (gainsI (ds.take k):Nat))),(5, .p (i64 (worldsI [] (ds.take k):Nat))),(13, .p (des ds)),(14, .p (i64 ds.length)),(15, .p (i64 k))],fun _=>ckS ds b (mapI ds) l,fun k=>k≤ds.length∧nodesI [] (ds.take k)≤8,fun k=>ds.length - k,?_,?_⟩
 ·exact⟨0,⟨Nat.zero_le _,by show 0≤8;decide⟩,ent_of [] [] [] rfl ⟨⟨rfl,rfl⟩,rfl,rfl,rfl,rfl,congrArg (fun n:Nat=>i64 n) hm.symm,rfl,trivial⟩ (sk) rfl⟩
 rintro k ⟨k1,k2⟩
 (first | refine brLt (fun m1=>?_) (fun m1=>?_) | refine brLe (fun m1=>?_) (fun m1=>?_) | refine brEq (fun m1=>?_) (fun m1=>?_))
 rotate_left
 ·have m1:¬ (k:Int)<(ds.length:Nat):=m1
  obtain⟨B,hB⟩:∃ B,B=bigI ds:=⟨_,rfl⟩
  rw [← hB]
  rw [take_all (by omega)] at k2
  have et:ds.take k=ds:=take_all (by omega)
  rw [bigI,decide_eq_false (show ¬ 8<nodesI [] ds by omega),Bool.false_or] at hB
  (first | refine brLt (fun e0=>?_) (fun e0=>?_) | refine brLe (fun e0=>?_) (fun e0=>?_) | refine brEq (fun e0=>?_) (fun e0=>?_))
  ·have e0:((nodesI [] (ds.take k):Nat):Int)=0:=e0
   rw [et] at e0
   rw [decide_eq_true (show nodesI [] ds<1 by omega),Bool.true_or] at hB
   exact⟨[],[],[], .returned (.p (.bool true)),ckS ds b (mapI ds) l,rfl,sk,sk,by rw [hB],rfl⟩
  have e0:¬ ((nodesI [] (ds.take k):Nat):Int)=0:=e0
  rw [et] at e0
  rw [decide_eq_false (show ¬ nodesI [] ds<1 by omega),Bool.false_or] at hB
  (first | refine brLt (fun e1=>?_) (fun e1=>?_) | refine brLe (fun e1=>?_) (fun e1=>?_) | refine brEq (fun e1=>?_) (fun e1=>?_))
  ·have e1:(4:Int)<((gainsI (ds.take k):Nat):Int):=e1
   rw [et] at e1
   rw [decide_eq_true (show 4<gainsI ds by omega),Bool.true_or] at hB
   exact⟨[],[],[], .returned (.p (.bool true)),ckS ds b (mapI ds) l,rfl,sk,sk,by rw [hB],rfl⟩
  have e1:¬ (4:Int)<((gainsI (ds.take k):Nat):Int):=e1
  rw [et] at e1
  rw [decide_eq_false (show ¬ 4<gainsI ds by omega),Bool.false_or] at hB
  (first | refine brLt (fun e2=>?_) (fun e2=>?_) | refine brLe (fun e2=>?_) (fun e2=>?_) | refine brEq (fun e2=>?_) (fun e2=>?_))
  ·have e2:(1024:Int)<((worldsI [] (ds.take k):Nat):Int):=e2
   rw [et] at e2
   rw [decide_eq_true (show 1024<worldsI [] ds by omega)] at hB
   exact⟨[],[],[], .returned (.p (.bool true)),ckS ds b (mapI ds) l,rfl,sk,sk,by rw [hB],rfl⟩
  ·have e2:¬ (1024:Int)<((worldsI [] (ds.take k):Nat):Int):=e2
   rw [et] at e2
   rw [decide_eq_false (show ¬ 1024<worldsI [] ds by omega)] at hB
   exact⟨[],[],[], .returned (.p (.bool false)),ckS ds b (mapI ds) l,rfl,sk,sk,by rw [hB],rfl⟩
 have m1:(k:Int)<(ds.length:Nat):=m1
 have hk:k<ds.length:=by omega
 have hcell:=decell hk
 have h1:=eachI_at ds [] hno k hk
 rw [List.nil_append] at h1
 have hcard:=fun h=>oneI_card (d:=ds.getD k de0) h1 h
 obtain⟨sN,sW,sG⟩:=count_step hk
 have hWl:worldsI [] (ds.take k)≤4 ^ nodesI [] (ds.take k):=worlds_le _ _ fun x hx hk3=>by
  obtain⟨j,hj,e⟩:=mem_at de0 (List.mem_of_mem_take hx)
  have h2:=eachI_at ds [] hno j hj
  rw [e] at h2
  exact(oneI_card h2 hk3).2
 have hfull:=fun h3 hp=>size_full hno hk h3 hp
 have hspos:=fun h3 hp=>size_pos hno hk h3 hp
 generalize ds.getD k de0=d at hcell hcard sN sW sG hfull hspos
 obtain⟨dk,dn,dnm,dpl,drs,dcs⟩:=d
 simp only [memI] at sN sW sG hcard hfull hspos
 refine⟨_,⟨by omega,(De.mk dk dn dnm dpl drs dcs).cells,hcell,rfl⟩,?_⟩
 have w2:∀ m:Nat,(1≤m→2≤dn∧dn≤4)→((worldsI [] (ds.take k):Nat):Int) * dn ^ m=((worldsI [] (ds.take k) * dn.toNat ^ m:Nat):Int):=fun m hq=>by
  rw [Int.natCast_mul,Int.natCast_pow]
  by_cases h0:m=0
  ·subst h0;rw [Int.pow_zero,Int.pow_zero]
  ·have:=hq (by omega)
   rw [show((dn.toNat:Nat):Int)=dn by omega]
 (first | refine brLt (fun q5=>?_) (fun q5=>?_) | refine brLe (fun q5=>?_) (fun q5=>?_) | refine brEq (fun q5=>?_) (fun q5=>?_))
 ·have q5:dk=5:=q5
  rw [if_neg (by omega),if_neg (by omega)] at sN sW
  rw [if_pos q5] at sG
  obtain⟨G,hGe⟩:∃ G,G=gainsI (ds.take k)+1:=⟨_,rfl⟩
  have hgl:gainsI (ds.take k)≤30:=by rw [gainsI];have:=List.length_filter_le (fun d:De=>decide (d.kind=5)) (ds.take k);rw [List.length_take] at this;omega
  have hN:=sN
  have hG:gainsI (ds.take (k+1))=G:=by rw [sG,hGe]
  have hq:1≤0→2≤dn∧dn≤4:=fun h=>absurd h (by decide)
  have hW2:=(w2 0 hq).trans (congrArg (fun z:Nat=>(z:Int)) sW.symm)
  refine⟨((G:Nat):Int),by rw [hGe,Int.natCast_add];exact wrap_i64 (by omega) (by omega),?_⟩
  refine⟨((nodesI [] (ds.take k)+0:Nat):Int),by rw [Int.natCast_add];exact wrap_i64 (by omega) (by omega),?_⟩
  (first | refine brLt (fun g8=>?_) (fun g8=>?_) | refine brLe (fun g8=>?_) (fun g8=>?_) | refine brEq (fun g8=>?_) (fun g8=>?_))
  ·have g8:(8:Int)<((nodesI [] (ds.take k)+0:Nat):Int):=g8
   have hm:=nodes_mono (ds:=ds) (k+1)
   exact⟨[],[],[], .returned (.p (.bool true)),ckS ds b (mapI ds) l,rfl,sk,sk,by rw [show bigI ds=true by unfold bigI;rw [decide_eq_true (show 8<nodesI [] ds by omega)];simp],rfl⟩
  have g8:¬ (8:Int)<((nodesI [] (ds.take k)+0:Nat):Int):=g8
  have hbd:=pow_bd (q:=dn) hWl (show nodesI [] (ds.take k)+0≤8 by omega) hq
  refine⟨Nat,fun j=>[(0, .ptr 0 0 0),(3, .p (i64 (nodesI [] (ds.take k)+0:Nat))),(4, .p (i64 (G:Nat))),(5, .p (i64 ((worldsI [] (ds.take k):Nat) * dn ^ j))),(7, .ptr 3 0 0),(13, .p (des ds)),(14, .p (i64 ds.length)),(15, .p (i64 k)),(41, .p (i64 (0:Nat))),(42, .p (i64 j))],fun _=>⟨4,[(3,dcO ⟨dk,dn,dnm,dpl,drs,dcs⟩),(2,isO l),(1,fmO (mapI ds)),(0,ckO ds (b:Nat) 2 l.length)]⟩,fun j=>j≤0,fun j=>0 - j,?_,?_⟩
  ·exact⟨0,Nat.zero_le _,ent_of [] [] [] rfl ⟨⟨rfl,rfl⟩,rfl,rfl,congrArg (fun z:Int=>i64 z) (by rw [Int.pow_zero,Int.mul_one]),⟨rfl,rfl⟩,rfl,rfl,rfl,rfl,rfl,trivial⟩ (sk) rfl⟩
  intro j hj
  (first | refine brLt (fun j1=>?_) (fun j1=>?_) | refine brLe (fun j1=>?_) (fun j1=>?_) | refine brEq (fun j1=>?_) (fun j1=>?_))
  ·have j1:(j:Int)<(0:Nat):=j1
   have hb1:=hbd (j+1) (by omega)
   refine⟨(worldsI [] (ds.take k):Nat) * dn ^ (j+1),by rw [Int.pow_succ,← Int.mul_assoc] at hb1 ⊢;exact wrap_i64 (by omega) (by omega),?_⟩
   refine⟨_,wrap_i64 (by omega) (by omega),?_⟩
   exact⟨j+1,by omega,ent_of [] [] [] rfl (sk) (sk) rfl,by show 0 - (j+1)<0 - j;omega⟩
  have j1:¬ (j:Int)<(0:Nat):=j1
  have hjm:j=0:=by omega
  subst hjm
  refine⟨_,wrap_i64 (by omega) (by omega),?_⟩
  exact⟨k+1,⟨by omega,by rw [hN];omega⟩,ent_of [] [] [] rfl ⟨⟨rfl,rfl⟩,congrArg (fun z:Nat=>i64 z) hN,congrArg (fun z:Nat=>i64 z) hG,congrArg (fun z:Int=>i64 z) hW2.symm,rfl,rfl,rfl,trivial⟩ (sk) rfl,by show ds.length - (k+1)<ds.length - k;omega⟩
 have q5:¬ dk=5:=q5
 have hG:gainsI (ds.take (k+1))=gainsI (ds.take k):=by rw [sG,if_neg q5];rfl
 (first | refine brLt (fun q4=>?_) (fun q4=>?_) | refine brLe (fun q4=>?_) (fun q4=>?_) | refine brEq (fun q4=>?_) (fun q4=>?_))
 ·have q4:dk=4:=q4
  rw [if_neg (by omega),if_pos q4] at sN sW
  have hN:=sN
  have hq:1≤1→2≤dn∧dn≤4:=fun _=>hcard (.inr q4)
  have hW2:=(w2 1 hq).trans (congrArg (fun z:Nat=>(z:Int)) sW.symm)
  refine⟨((nodesI [] (ds.take k)+1:Nat):Int),by rw [Int.natCast_add];exact wrap_i64 (by omega) (by omega),?_⟩
  (first | refine brLt (fun g8=>?_) (fun g8=>?_) | refine brLe (fun g8=>?_) (fun g8=>?_) | refine brEq (fun g8=>?_) (fun g8=>?_))
  ·have g8:(8:Int)<((nodesI [] (ds.take k)+1:Nat):Int):=g8
   have hm:=nodes_mono (ds:=ds) (k+1)
   exact⟨[],[],[], .returned (.p (.bool true)),ckS ds b (mapI ds) l,rfl,sk,sk,by rw [show bigI ds=true by unfold bigI;rw [decide_eq_true (show 8<nodesI [] ds by omega)];simp],rfl⟩
  have g8:¬ (8:Int)<((nodesI [] (ds.take k)+1:Nat):Int):=g8
  have hbd:=pow_bd (q:=dn) hWl (show nodesI [] (ds.take k)+1≤8 by omega) hq
  refine⟨Nat,fun j=>[(0, .ptr 0 0 0),(3, .p (i64 (nodesI [] (ds.take k)+1:Nat))),(4, .p (i64 (gainsI (ds.take k):Nat))),(5, .p (i64 ((worldsI [] (ds.take k):Nat) * dn ^ j))),(7, .ptr 3 0 0),(13, .p (des ds)),(14, .p (i64 ds.length)),(15, .p (i64 k)),(41, .p (i64 (1:Nat))),(42, .p (i64 j))],fun _=>⟨4,[(3,dcO ⟨dk,dn,dnm,dpl,drs,dcs⟩),(2,isO l),(1,fmO (mapI ds)),(0,ckO ds (b:Nat) 2 l.length)]⟩,fun j=>j≤1,fun j=>1 - j,?_,?_⟩
  ·exact⟨0,Nat.zero_le _,ent_of [] [] [] rfl ⟨⟨rfl,rfl⟩,rfl,rfl,congrArg (fun z:Int=>i64 z) (by rw [Int.pow_zero,Int.mul_one]),⟨rfl,rfl⟩,rfl,rfl,rfl,rfl,rfl,trivial⟩ (sk) rfl⟩
  intro j hj
  (first | refine brLt (fun j1=>?_) (fun j1=>?_) | refine brLe (fun j1=>?_) (fun j1=>?_) | refine brEq (fun j1=>?_) (fun j1=>?_))
  ·have j1:(j:Int)<(1:Nat):=j1
   have hb1:=hbd (j+1) (by omega)
   refine⟨(worldsI [] (ds.take k):Nat) * dn ^ (j+1),by rw [Int.pow_succ,← Int.mul_assoc] at hb1 ⊢;exact wrap_i64 (by omega) (by omega),?_⟩
   refine⟨_,wrap_i64 (by omega) (by omega),?_⟩
   exact⟨j+1,by omega,ent_of [] [] [] rfl (sk) (sk) rfl,by show 1 - (j+1)<1 - j;omega⟩
  have j1:¬ (j:Int)<(1:Nat):=j1
  have hjm:j=1:=by omega
  subst hjm
  refine⟨_,wrap_i64 (by omega) (by omega),?_⟩
  exact⟨k+1,⟨by omega,by rw [hN];omega⟩,ent_of [] [] [] rfl ⟨⟨rfl,rfl⟩,congrArg (fun z:Nat=>i64 z) hN,congrArg (fun z:Nat=>i64 z) hG,congrArg (fun z:Int=>i64 z) hW2.symm,rfl,rfl,rfl,trivial⟩ (sk) rfl,by show ds.length - (k+1)<ds.length - k;omega⟩
 have q4:¬ dk=4:=q4
 (first | refine brLt (fun q3=>?_) (fun q3=>?_) | refine brLe (fun q3=>?_) (fun q3=>?_) | refine brEq (fun q3=>?_) (fun q3=>?_))
 ·have q3:dk=3:=q3
  rw [if_pos q3] at sN sW
  refine And.intro (fun hp=>?_) (fun hp=>?_)
  ·have hp:dpl=[]:=hp
   rw [if_pos hp] at sN sW
   have hN:=sN
   have hq:1≤1→2≤dn∧dn≤4:=fun _=>hcard (.inl q3)
   have hW2:=(w2 1 hq).trans (congrArg (fun z:Nat=>(z:Int)) sW.symm)
   refine⟨((nodesI [] (ds.take k)+1:Nat):Int),by rw [Int.natCast_add];exact wrap_i64 (by omega) (by omega),?_⟩
   (first | refine brLt (fun g8=>?_) (fun g8=>?_) | refine brLe (fun g8=>?_) (fun g8=>?_) | refine brEq (fun g8=>?_) (fun g8=>?_))
   ·have g8:(8:Int)<((nodesI [] (ds.take k)+1:Nat):Int):=g8
    have hm:=nodes_mono (ds:=ds) (k+1)
    exact⟨[],[],[], .returned (.p (.bool true)),ckS ds b (mapI ds) l,rfl,sk,sk,by rw [show bigI ds=true by unfold bigI;rw [decide_eq_true (show 8<nodesI [] ds by omega)];simp],rfl⟩
   have g8:¬ (8:Int)<((nodesI [] (ds.take k)+1:Nat):Int):=g8
   have hbd:=pow_bd (q:=dn) hWl (show nodesI [] (ds.take k)+1≤8 by omega) hq
   refine⟨Nat,fun j=>[(0, .ptr 0 0 0),(3, .p (i64 (nodesI [] (ds.take k)+1:Nat))),(4, .p (i64 (gainsI (ds.take k):Nat))),(5, .p (i64 ((worldsI [] (ds.take k):Nat) * dn ^ j))),(7, .ptr 3 0 0),(13, .p (des ds)),(14, .p (i64 ds.length)),(15, .p (i64 k)),(41, .p (i64 (1:Nat))),(42, .p (i64 j))],fun _=>⟨4,[(3,dcO ⟨dk,dn,dnm,dpl,drs,dcs⟩),(2,isO l),(1,fmO (mapI ds)),(0,ckO ds (b:Nat) 2 l.length)]⟩,fun j=>j≤1,fun j=>1 - j,?_,?_⟩
   ·exact⟨0,Nat.zero_le _,ent_of [] [] [] rfl ⟨⟨rfl,rfl⟩,rfl,rfl,congrArg (fun z:Int=>i64 z) (by rw [Int.pow_zero,Int.mul_one]),⟨rfl,rfl⟩,rfl,rfl,rfl,rfl,rfl,trivial⟩ (sk) rfl⟩
   intro j hj
   (first | refine brLt (fun j1=>?_) (fun j1=>?_) | refine brLe (fun j1=>?_) (fun j1=>?_) | refine brEq (fun j1=>?_) (fun j1=>?_))
   ·have j1:(j:Int)<(1:Nat):=j1
    have hb1:=hbd (j+1) (by omega)
    refine⟨(worldsI [] (ds.take k):Nat) * dn ^ (j+1),by rw [Int.pow_succ,← Int.mul_assoc] at hb1 ⊢;exact wrap_i64 (by omega) (by omega),?_⟩
    refine⟨_,wrap_i64 (by omega) (by omega),?_⟩
    exact⟨j+1,by omega,ent_of [] [] [] rfl (sk) (sk) rfl,by show 1 - (j+1)<1 - j;omega⟩
   have j1:¬ (j:Int)<(1:Nat):=j1
   have hjm:j=1:=by omega
   subst hjm
   refine⟨_,wrap_i64 (by omega) (by omega),?_⟩
   exact⟨k+1,⟨by omega,by rw [hN];omega⟩,ent_of [] [] [] rfl ⟨⟨rfl,rfl⟩,congrArg (fun z:Nat=>i64 z) hN,congrArg (fun z:Nat=>i64 z) hG,congrArg (fun z:Int=>i64 z) hW2.symm,rfl,rfl,rfl,trivial⟩ (sk) rfl,by show ds.length - (k+1)<ds.length - k;omega⟩
  ·have hp:¬ dpl=[]:=hp
   rw [if_neg hp] at sN sW
   have hf:=hfull q3 hp
   have hs:=hspos q3 hp
   have hS:=size_h b l hcs hp
   rw [List.take_length,hf] at hS
   obtain⟨m,hm⟩:∃ m:Nat,sizeV (ds.take k) dpl=(m:Nat):=⟨(sizeV (ds.take k) dpl).toNat,by omega⟩
   rw [hm] at hS
   rw [hm,Int.toNat_natCast] at sN sW
   have hN:=sN
   have hq:1≤m→2≤dn∧dn≤4:=fun _=>hcard (.inl q3)
   have hW2:=(w2 m hq).trans (congrArg (fun z:Nat=>(z:Int)) sW.symm)
   have hm6:m≤6:=by omega
   refine hS.holds.useT [] [] rfl (sk) (sk) fun e0 H0 hq=>?_
   obtain⟨rfl,rfl⟩:=hq
   refine⟨rfl,_,⟨4,(2,isO l)::(1,fmO (mapI ds))::(0,ckO ds (b:Nat) 2 l.length)::[(3,dcO ⟨dk,dn,dnm,dpl,drs,dcs⟩)]⟩,rfl,rfl,?_⟩
   refine⟨((nodesI [] (ds.take k)+m:Nat):Int),by rw [Int.natCast_add];exact wrap_i64 (by omega) (by omega),?_⟩
   (first | refine brLt (fun g8=>?_) (fun g8=>?_) | refine brLe (fun g8=>?_) (fun g8=>?_) | refine brEq (fun g8=>?_) (fun g8=>?_))
   ·have g8:(8:Int)<((nodesI [] (ds.take k)+m:Nat):Int):=g8
    have hm:=nodes_mono (ds:=ds) (k+1)
    exact⟨[],[],[], .returned (.p (.bool true)),ckS ds b (mapI ds) l,rfl,sk,sk,by rw [show bigI ds=true by unfold bigI;rw [decide_eq_true (show 8<nodesI [] ds by omega)];simp],rfl⟩
   have g8:¬ (8:Int)<((nodesI [] (ds.take k)+m:Nat):Int):=g8
   have hbd:=pow_bd (q:=dn) hWl (show nodesI [] (ds.take k)+m≤8 by omega) hq
   refine⟨Nat,fun j=>[(0, .ptr 0 0 0),(3, .p (i64 (nodesI [] (ds.take k)+m:Nat))),(4, .p (i64 (gainsI (ds.take k):Nat))),(5, .p (i64 ((worldsI [] (ds.take k):Nat) * dn ^ j))),(7, .ptr 3 0 0),(13, .p (des ds)),(14, .p (i64 ds.length)),(15, .p (i64 k)),(41, .p (i64 (m:Nat))),(42, .p (i64 j))],fun _=>⟨4,[(3,dcO ⟨dk,dn,dnm,dpl,drs,dcs⟩),(2,isO l),(1,fmO (mapI ds)),(0,ckO ds (b:Nat) 2 l.length)]⟩,fun j=>j≤m,fun j=>m - j,?_,?_⟩
   ·exact⟨0,Nat.zero_le _,ent_of [] [] [] rfl ⟨⟨rfl,rfl⟩,rfl,rfl,congrArg (fun z:Int=>i64 z) (by rw [Int.pow_zero,Int.mul_one]),⟨rfl,rfl⟩,rfl,rfl,rfl,rfl,rfl,trivial⟩ (sk) rfl⟩
   intro j hj
   (first | refine brLt (fun j1=>?_) (fun j1=>?_) | refine brLe (fun j1=>?_) (fun j1=>?_) | refine brEq (fun j1=>?_) (fun j1=>?_))
   ·have j1:(j:Int)<(m:Nat):=j1
    have hb1:=hbd (j+1) (by omega)
    refine⟨(worldsI [] (ds.take k):Nat) * dn ^ (j+1),by rw [Int.pow_succ,← Int.mul_assoc] at hb1 ⊢;exact wrap_i64 (by omega) (by omega),?_⟩
    refine⟨_,wrap_i64 (by omega) (by omega),?_⟩
    exact⟨j+1,by omega,ent_of [] [] [] rfl (sk) (sk) rfl,by show m - (j+1)<m - j;omega⟩
   have j1:¬ (j:Int)<(m:Nat):=j1
   have hjm:j=m:=by omega
   subst hjm
   refine⟨_,wrap_i64 (by omega) (by omega),?_⟩
   exact⟨k+1,⟨by omega,by rw [hN];omega⟩,ent_of [] [] [] rfl ⟨⟨rfl,rfl⟩,congrArg (fun z:Nat=>i64 z) hN,congrArg (fun z:Nat=>i64 z) hG,congrArg (fun z:Int=>i64 z) hW2.symm,rfl,rfl,rfl,trivial⟩ (sk) rfl,by show ds.length - (k+1)<ds.length - k;omega⟩
 ·have q3:¬ dk=3:=q3
  rw [if_neg q3,if_neg q4] at sN sW
  have hN:=sN
  have hq:1≤0→2≤dn∧dn≤4:=fun h=>absurd h (by decide)
  have hW2:=(w2 0 hq).trans (congrArg (fun z:Nat=>(z:Int)) sW.symm)
  refine⟨((nodesI [] (ds.take k)+0:Nat):Int),by rw [Int.natCast_add];exact wrap_i64 (by omega) (by omega),?_⟩
  (first | refine brLt (fun g8=>?_) (fun g8=>?_) | refine brLe (fun g8=>?_) (fun g8=>?_) | refine brEq (fun g8=>?_) (fun g8=>?_))
  ·have g8:(8:Int)<((nodesI [] (ds.take k)+0:Nat):Int):=g8
   have hm:=nodes_mono (ds:=ds) (k+1)
   exact⟨[],[],[], .returned (.p (.bool true)),ckS ds b (mapI ds) l,rfl,sk,sk,by rw [show bigI ds=true by unfold bigI;rw [decide_eq_true (show 8<nodesI [] ds by omega)];simp],rfl⟩
  have g8:¬ (8:Int)<((nodesI [] (ds.take k)+0:Nat):Int):=g8
  have hbd:=pow_bd (q:=dn) hWl (show nodesI [] (ds.take k)+0≤8 by omega) hq
  refine⟨Nat,fun j=>[(0, .ptr 0 0 0),(3, .p (i64 (nodesI [] (ds.take k)+0:Nat))),(4, .p (i64 (gainsI (ds.take k):Nat))),(5, .p (i64 ((worldsI [] (ds.take k):Nat) * dn ^ j))),(7, .ptr 3 0 0),(13, .p (des ds)),(14, .p (i64 ds.length)),(15, .p (i64 k)),(41, .p (i64 (0:Nat))),(42, .p (i64 j))],fun _=>⟨4,[(3,dcO ⟨dk,dn,dnm,dpl,drs,dcs⟩),(2,isO l),(1,fmO (mapI ds)),(0,ckO ds (b:Nat) 2 l.length)]⟩,fun j=>j≤0,fun j=>0 - j,?_,?_⟩
  ·exact⟨0,Nat.zero_le _,ent_of [] [] [] rfl ⟨⟨rfl,rfl⟩,rfl,rfl,congrArg (fun z:Int=>i64 z) (by rw [Int.pow_zero,Int.mul_one]),⟨rfl,rfl⟩,rfl,rfl,rfl,rfl,rfl,trivial⟩ (sk) rfl⟩
  intro j hj
  (first | refine brLt (fun j1=>?_) (fun j1=>?_) | refine brLe (fun j1=>?_) (fun j1=>?_) | refine brEq (fun j1=>?_) (fun j1=>?_))
  ·have j1:(j:Int)<(0:Nat):=j1
   have hb1:=hbd (j+1) (by omega)
   refine⟨(worldsI [] (ds.take k):Nat) * dn ^ (j+1),by rw [Int.pow_succ,← Int.mul_assoc] at hb1 ⊢;exact wrap_i64 (by omega) (by omega),?_⟩
   refine⟨_,wrap_i64 (by omega) (by omega),?_⟩
   exact⟨j+1,by omega,ent_of [] [] [] rfl (sk) (sk) rfl,by show 0 - (j+1)<0 - j;omega⟩
  have j1:¬ (j:Int)<(0:Nat):=j1
  have hjm:j=0:=by omega
  subst hjm
  refine⟨_,wrap_i64 (by omega) (by omega),?_⟩
  exact⟨k+1,⟨by omega,by rw [hN];omega⟩,ent_of [] [] [] rfl ⟨⟨rfl,rfl⟩,congrArg (fun z:Nat=>i64 z) hN,congrArg (fun z:Nat=>i64 z) hG,congrArg (fun z:Int=>i64 z) hW2.symm,rfl,rfl,rfl,trivial⟩ (sk) rfl,by show ds.length - (k+1)<ds.length - k;omega⟩
abbrev pgS (ds:List De):Hp:=⟨2,[(1,fmO []),(0,⟨TCk,false, .bx [.p (des ds), .p (i64 0), .mp 1, .p .nils]⟩)]⟩
abbrev pgT (ds:List De) (b:Nat) (es:List (List UInt8 × PV)) (l:List Iss):Hp:=⟨3,[(2,isO l),(1,fmO es),(0,ckO ds (b:Nat) 2 l.length)]⟩
theorem noteN_h (ds:List De) (k:Int):HoldsG cx 48 [.ptr 0 0 0, .p (i64 k), .p .nils] (pgS ds) (fun e H'=>e=.returned und∧H'=pgT ds 0 [] [⟨k,0,[]⟩]):=by
 refine holdsN_of_vc Tryz.func48 rfl rfl rfl ?_
 refine⟨Unit,fun _=>[(0, .ptr 0 0 0),(6, .ptr 2 0 0),(15, .p .nils),(16, .p (i64 0)),(17, .p (i64 0))],fun _=>⟨3,[(2,⟨TIss,false, .bx [.p (i64 k), .p (i64 0), .p (.str [])]⟩),(1,fmO []),(0,⟨TCk,false, .bx [.p (des ds), .p (i64 0), .mp 1, .p .nils]⟩)]⟩,fun _=>True,fun _=>0,?_,?_⟩
 ·exact⟨(),trivial,ent_of [] [] [] rfl (sk) (sk) rfl⟩
 intro _ _
 refine And.intro (fun h=>absurd (show(0:Int)<0 from h) (by decide)) (fun _=>?_)
 refine vdraw_ot otN6 (by kernel_rfl) ?_
 refine⟨by show 1 * 32≤140737488355328;decide,?_⟩
 exact⟨[],[(2,3)],[], .returned und,pgT ds 0 [] [⟨k,0,[]⟩],rfl,sk,sk,rfl,rfl⟩
abbrev otP10:OT:=(.pure 0 (.pure 1 (.pure 2 (.pure 3 (.pure 4 (.pure 5 (.pure 6 (.eff 7 [] .fin .nil))))))))
def faO:AObj:=⟨133,false, .bx [.p .nilFn, .fn (.func 49) [.ptr 0 0 0] [], .fn (.func 50) [.ptr 0 0 0] [], .fn (.func 51) [.ptr 0 0 0] [], .fn (.func 52) [.ptr 0 0 0] [], .fn (.func 53) [.ptr 0 0 0] []]⟩
def pgQ (ds:List De) (l:List Iss) (e:AE) (H':Hp):Prop:=e=.returned und∧∃ b es,H'=pgT ds b es l
abbrev pgH (ds:List De) (x:Nat × List Iss):Hp:=⟨4,[(3,faO),(2,isO x.2),(1,fmO (mapI (ds.take x.1))),(0,ckO ds (x.1 - 1:Nat) 2 x.2.length)]⟩
theorem mapI_next {ds:List De} {k:Nat} (hk:k<ds.length):mapI (ds.take (k+1))=mapI (ds.take k)++(if (ds.getD k de0).name=[]∨(fstI (ds.take k) (ds.getD k de0).name).isSome then [] else [((ds.getD k de0).name,i64 (k:Nat))]):=by
 rw [take_succ_getD de0 hk,mapI_snoc,List.length_take,show min k ds.length=k by omega]
theorem each_next {ds:List De} {g:Int} {k:Nat} (hk:k<ds.length):eachI g [] (ds.take (k+1))=eachI g [] (ds.take k)++oneI (ds.take k) (ds.getD k de0) g:=by
 rw [take_succ_getD de0 hk,eachI_app]
 show _++(_++[])=_
 rw [List.append_nil];rfl
theorem ckS_at {ds:List De} {k:Nat} (hv:ds.length≤30) (hk:k≤ds.length):CkS ds k (mapI (ds.take k)):=⟨fun _ hn=>find_at _ hn,hv,hk⟩
theorem program_hS (ds:List De) (hv:validB ds=true):HoldsG cx 28 [.ptr 0 0 0] (pgS ds) (pgQ ds (allI ds)):=by
 obtain⟨hlen,hdv⟩:=valid_dcs hv
 have hm:(ds.map De.cells).length=ds.length:=List.length_map ..
 have hpre:∀ k,(headI ds++eachI (grainI ds) [] (ds.take k)).length≤13000:=fun k=>by
  have h1:=headI_len ds
  have h2:=eachI_len (grainI ds) (ds.take k) [] fun d hd=>hdv d (List.mem_of_mem_take hd)
  rw [List.length_take] at h2
  rw [List.length_append];omega
 obtain⟨R,hR⟩:∃ R,R=allI ds:=⟨_,rfl⟩
 rw [← hR]
 refine holdsN_of_vc Tryz.func28 rfl rfl rfl ?_
 apply cut
 case h=>
  intro key
  have hin:∀ X,X=headI ds→(0:Nat)≤ds.length∧X=headI ds++eachI (grainI ds) [] (ds.take 0):=fun X hX=>⟨Nat.zero_le _,by rw [hX];show _=headI ds++[];rw [List.append_nil]⟩
  by_cases h0:ds=[]
  ·refine And.intro (fun _=>?_) (fun h=>absurd (show((ds.map De.cells).length:Int)=0 by rw [h0];rfl) h)
   refine(noteN_h ds 1).holds.useT [] [] rfl (sk) (sk) fun e0 H0 hq=>?_
   obtain⟨rfl,rfl⟩:=hq
   refine⟨rfl,_,⟨3,(2,isO [⟨1,0,[]⟩])::(1,fmO [])::(0,ckO ds 0 2 1)::[]⟩,rfl,rfl,?_⟩
   exact⟨Nat × List Iss,fun x=>[(0, .ptr 0 0 0),(2, .ptr 3 0 0),(42, .p (des ds)),(43, .p (i64 ds.length)),(44, .p (i64 x.1))],pgH ds,fun x=>x.1≤ds.length∧x.2=headI ds++eachI (grainI ds) [] (ds.take x.1),fun x=>ds.length - x.1,⟨(0,[⟨1,0,[]⟩]),hin _ (by first | exact hd.symm | (rw [h0];rfl)),ent_of [] [] [] rfl ⟨⟨rfl,rfl⟩,⟨rfl,rfl⟩,rfl,congrArg (fun n:Nat=>i64 n) hm.symm,rfl,trivial⟩ (sk) rfl⟩,key.get⟩
  ·have hpos:1≤ds.length:=by
    cases ds with
    | nil=>exact absurd rfl h0
    | cons d r=>show 1≤r.length+1;omega
   have hh:∃ t:De,(ds.map De.cells)[0]?=some t.cells∧(headI ds=if t.kind=1 then [] else [⟨1,0,[]⟩]):=by
    cases ds with
    | nil=>exact absurd rfl h0
    | cons t r=>exact⟨t,rfl,rfl⟩
   obtain⟨⟨tk,tn,tnm,tpl,trs,tcs⟩,ht,hd⟩:=hh
   refine And.intro (fun h=>absurd (show((ds.map De.cells).length:Int)=0 from h) (by rw [hm];omega)) (fun _=>?_)
   refine⟨_,⟨by decide,(De.mk tk tn tnm tpl trs tcs).cells,ht,rfl⟩,?_⟩
   refine And.intro (fun k1=>?_) (fun k1=>?_)
   ·have k1:tk=1:=k1
    simp only [if_pos k1] at hd
    exact⟨Nat × List Iss,fun x=>[(0, .ptr 0 0 0),(2, .ptr 3 0 0),(42, .p (des ds)),(43, .p (i64 ds.length)),(44, .p (i64 x.1))],pgH ds,fun x=>x.1≤ds.length∧x.2=headI ds++eachI (grainI ds) [] (ds.take x.1),fun x=>ds.length - x.1,⟨(0,[]),hin [] hd.symm,ent_of [] [(3,2)] [(2,3)] rfl ⟨⟨rfl,rfl⟩,⟨rfl,rfl⟩,rfl,congrArg (fun n:Nat=>i64 n) hm.symm,rfl,trivial⟩ (sk) rfl⟩,key.get⟩
   ·have k1:¬ tk=1:=k1
    simp only [if_neg k1] at hd
    refine(noteN_h ds 1).holds.useT [] [] rfl (sk) (sk) fun e0 H0 hq=>?_
    obtain⟨rfl,rfl⟩:=hq
    refine⟨rfl,_,⟨3,(2,isO [⟨1,0,[]⟩])::(1,fmO [])::(0,ckO ds 0 2 1)::[]⟩,rfl,rfl,?_⟩
    exact⟨Nat × List Iss,fun x=>[(0, .ptr 0 0 0),(2, .ptr 3 0 0),(42, .p (des ds)),(43, .p (i64 ds.length)),(44, .p (i64 x.1))],pgH ds,fun x=>x.1≤ds.length∧x.2=headI ds++eachI (grainI ds) [] (ds.take x.1),fun x=>ds.length - x.1,⟨(0,[⟨1,0,[]⟩]),hin _ (by first | exact hd.symm | (rw [h0];rfl)),ent_of [] [] [] rfl ⟨⟨rfl,rfl⟩,⟨rfl,rfl⟩,rfl,congrArg (fun n:Nat=>i64 n) hm.symm,rfl,trivial⟩ (sk) rfl⟩,key.get⟩
 case k=>
  rintro⟨k,cur⟩ ⟨k1,k2⟩
  simp only [] at k1 k2
  have hcl:cur.length≤13000:=by rw [k2];exact hpre k
  (first | refine brLt (fun m1=>?_) (fun m1=>?_) | refine brLe (fun m1=>?_) (fun m1=>?_) | refine brEq (fun m1=>?_) (fun m1=>?_))
  rotate_left
  ·have m1:¬ (k:Int)<(ds.length:Nat):=m1
   have et:ds.take k=ds:=take_all (by omega)
   rw [et] at k2
   have hkl:k=ds.length:=by omega
   by_cases hb:cur=[]
   ·subst hb
    have hno:eachI (grainI ds) [] ds=[]:=(List.append_eq_nil_iff.1 k2.symm).2
    have hRa:R=if bigI ds then [⟨10,ds.length,[]⟩] else []:=by rw [hR,allI,if_pos (show baseI ds=[] from k2.symm)]
    have hB:=big_h (k - 1) [] hlen hno
    rw [show mapI ds=mapI (ds.take k) by rw [et]] at hB
    refine And.intro (fun _=>?_) (fun h=>absurd rfl h)
    by_cases hbg:bigI ds=true
    ·rw [if_pos hbg] at hRa
     rw [hbg] at hB
     refine hB.holds.useT [] [] rfl (sk) (sk) fun e0 H0 hq=>?_
     obtain⟨rfl,rfl⟩:=hq
     refine⟨rfl,_,⟨4,(2,isO [])::(1,fmO (mapI (ds.take k)))::(0,ckO ds (k - 1:Nat) 2 0)::[(3,faO)]⟩,rfl,rfl,?_⟩
     refine(note0_h ds (ds.map De.cells).length (mapI (ds.take k)) [] 10 (by simp)).holds.useT [] [] rfl (sk) (sk) fun e0 H0 hq=>?_
     obtain⟨rfl,rfl⟩:=hq
     refine⟨rfl,_,⟨5,(4,isO [Iss.mk 10 ((ds.map De.cells).length:Nat) []])::(1,fmO (mapI (ds.take k)))::(0,ckO ds ((ds.map De.cells).length:Nat) 4 1)::[(3,faO)]⟩,rfl,rfl,?_⟩
     exact⟨[],[(2,4)],[], .returned und,pgT ds (ds.map De.cells).length (mapI (ds.take k)) [⟨10,((ds.map De.cells).length:Nat),[]⟩],rfl,sk,sk,rfl,_,_,by rw [hRa,hm]⟩
    ·rw [if_neg hbg] at hRa
     rw [Bool.not_eq_true] at hbg
     rw [hbg] at hB
     refine hB.holds.useT [] [] rfl (sk) (sk) fun e0 H0 hq=>?_
     obtain⟨rfl,rfl⟩:=hq
     refine⟨rfl,_,⟨4,(2,isO [])::(1,fmO (mapI (ds.take k)))::(0,ckO ds (k - 1:Nat) 2 0)::[(3,faO)]⟩,rfl,rfl,?_⟩
     exact⟨[],[],[], .returned und,pgT ds (k - 1) (mapI (ds.take k)) [],rfl,sk,sk,rfl,k - 1,_,by rw [hRa]⟩
   ·have hRa:R=cur:=by
     rw [hR,allI,if_neg (show ¬ baseI ds=[] from fun e=>hb (k2.trans e))];exact k2.symm
    have hl0:¬ cur.length=0:=fun e=>hb (List.eq_nil_of_length_eq_zero e)
    refine And.intro (fun h=>absurd (show((cur.length:Nat):Int)=0 from h) (by omega)) (fun _=>?_)
    exact⟨[],[],[], .returned und,pgT ds (k - 1) (mapI (ds.take k)) cur,rfl,sk,sk,rfl,k - 1,_,by rw [hRa]⟩
  have m1:(k:Int)<(ds.length:Nat):=m1
  have hk:k<ds.length:=by omega
  have hcell:=decell hk
  have hd:=hdv _ (getD_memL de0 hk)
  have hC:=ckS_at hlen k1
  have hmap:=mapI_next hk
  have hnx:=each_next (g:=grainI ds) hk
  have k4:cur++oneI (ds.take k) (ds.getD k de0) (grainI ds)=headI ds++eachI (grainI ds) [] (ds.take (k+1)):=by rw [hnx,← List.append_assoc,← k2]
  have k5:(cur++oneI (ds.take k) (ds.getD k de0) (grainI ds)).length≤90000:=by rw [k4];have:=hpre (k+1);omega
  generalize ds.getD k de0=d at hcell hd hmap k4 k5
  clear hnx k2 hR
  have hd:=hd.ok
  obtain⟨dk,dn,dnm,dpl,drs,dcs⟩:=d
  simp only [] at hmap
  refine⟨_,⟨by omega,(De.mk dk dn dnm dpl drs dcs).cells,hcell,rfl⟩,?_⟩
  have hkind:=hd.ok.kind
  have hbare:=hd.ok.bare
  have hname:=hd.ok.name
  simp only [] at hkind hbare hname
  by_cases hb:dnm=[]
  ·have hnone:findM (mapI (ds.take k)) dnm=none:=by rw [hb];exact find_nil _
   rw [if_pos (.inl hb),List.append_nil] at hmap
   rcases hkind with rfl | rfl | rfl | rfl | rfl
   ·have hG:=grain_hS cur hC ⟨1,dn,dnm,dpl,drs,dcs⟩ rfl k5
    generalize cur++oneI (ds.take k) ⟨1,dn,dnm,dpl,drs,dcs⟩ (grainI ds)=nxt at hG k4
    refine VDraw.seq rfl ?_
    refine⟨by show(0:Int)≤1∧(1:Int)<6;decide,?_⟩
    refine⟨_,rfl,?_⟩
    refine(hG).holds.useT [] [] rfl (sk) (sk) fun e0 H0 hq=>?_
    obtain⟨rfl,rfl⟩:=hq
    refine⟨rfl,_,⟨6,(5,isO nxt)::(1,fmO (mapI (ds.take k)))::(0,ckO ds (k:Nat) 5 nxt.length)::[(4,dcO ⟨1,dn,dnm,dpl,drs,dcs⟩),(3,faO)]⟩,rfl,rfl,?_⟩
    refine VDraw.seq rfl ?_
    refine⟨_, .inr ⟨hnone,rfl⟩,?_⟩
    refine And.intro (fun _=>?_) (fun h=>absurd hb h)
    refine⟨((k+1:Nat):Int),by rw [Int.natCast_add];exact wrap_i64 (by omega) (by omega),?_⟩
    exact⟨(k+1,nxt),⟨by show k+1≤ds.length;omega,k4⟩,ent_of [] [(2,5),(3,3)] [] rfl (sk) ⟨⟨_,rfl,rfl,rfl,sk⟩,⟨_,rfl,rfl,rfl,rfl⟩,⟨_,rfl,rfl,rfl,congrArg Cn.ms (hmap.symm)⟩,⟨_,rfl,rfl,rfl,sk⟩,trivial⟩ rfl,by show ds.length - (k+1)<ds.length - k;omega⟩
   ·exact absurd hb (hname (.inl rfl))
   ·exact absurd hb (hname (.inr (.inl rfl)))
   ·exact absurd hb (hname (.inr (.inr rfl)))
   ·have hG:=gain_hS cur hC ⟨5,dn,dnm,dpl,drs,dcs⟩ hd rfl k5
    generalize cur++oneI (ds.take k) ⟨5,dn,dnm,dpl,drs,dcs⟩ (grainI ds)=nxt at hG k4
    refine VDraw.seq rfl ?_
    refine⟨by show(0:Int)≤5∧(5:Int)<6;decide,?_⟩
    refine⟨_,rfl,?_⟩
    refine(hG).holds.useT [] [] rfl (sk) (sk) fun e0 H0 hq=>?_
    obtain⟨rfl,rfl⟩:=hq
    refine⟨rfl,_,⟨6,(5,isO nxt)::(1,fmO (mapI (ds.take k)))::(0,ckO ds (k:Nat) 5 nxt.length)::[(4,dcO ⟨5,dn,dnm,dpl,drs,dcs⟩),(3,faO)]⟩,rfl,rfl,?_⟩
    refine VDraw.seq rfl ?_
    refine⟨_, .inr ⟨hnone,rfl⟩,?_⟩
    refine And.intro (fun _=>?_) (fun h=>absurd hb h)
    refine⟨((k+1:Nat):Int),by rw [Int.natCast_add];exact wrap_i64 (by omega) (by omega),?_⟩
    exact⟨(k+1,nxt),⟨by show k+1≤ds.length;omega,k4⟩,ent_of [] [(2,5),(3,3)] [] rfl (sk) ⟨⟨_,rfl,rfl,rfl,sk⟩,⟨_,rfl,rfl,rfl,rfl⟩,⟨_,rfl,rfl,rfl,congrArg Cn.ms (hmap.symm)⟩,⟨_,rfl,rfl,rfl,sk⟩,trivial⟩ rfl,by show ds.length - (k+1)<ds.length - k;omega⟩
  ·have hfa:=find_at (ds.take k) hb
   have hor:(findM (mapI (ds.take k)) dnm=none∧mapI (ds.take (k+1))=mapI (ds.take k)++[(dnm,i64 (k:Nat))])∨∃ i:Nat,findM (mapI (ds.take k)) dnm=some (i64 (i:Nat))∧mapI (ds.take (k+1))=mapI (ds.take k):=by
    cases hi:fstI (ds.take k) dnm with
    | none=>rw [hi] at hfa hmap;exact .inl ⟨hfa,by rw [hmap,if_neg (by intro h;rcases h with h | h;exact hb h;cases h)]⟩
    | some i=>rw [hi] at hfa hmap;exact .inr ⟨i,hfa,by rw [hmap,if_pos (.inr rfl),List.append_nil]⟩
   rcases hkind with rfl | rfl | rfl | rfl | rfl
   ·exact absurd (hbare (.inl rfl)) hb
   ·have hG:=plate_hS cur hC ⟨2,dn,dnm,dpl,drs,dcs⟩ hd.ok rfl k5
    generalize cur++oneI (ds.take k) ⟨2,dn,dnm,dpl,drs,dcs⟩ (grainI ds)=nxt at hG k4
    refine VDraw.seq rfl ?_
    refine Or.elim hor (fun hi=>?_) (fun hi=>?_)
    ·obtain⟨hi1,hi2⟩:=hi
     refine⟨by show(0:Int)≤2∧(2:Int)<6;decide,?_⟩
     refine⟨_,rfl,?_⟩
     refine(hG).holds.useT [] [] rfl (sk) (sk) fun e0 H0 hq=>?_
     obtain⟨rfl,rfl⟩:=hq
     refine⟨rfl,_,⟨6,(5,isO nxt)::(1,fmO (mapI (ds.take k)))::(0,ckO ds (k:Nat) 5 nxt.length)::[(4,dcO ⟨2,dn,dnm,dpl,drs,dcs⟩),(3,faO)]⟩,rfl,rfl,?_⟩
     refine VDraw.seq rfl ?_
     refine⟨_, .inr ⟨hi1,rfl⟩,?_⟩
     refine And.intro (fun h=>absurd h hb) (fun _=>?_)
     refine vdraw_ot otP10 (by kernel_rfl) ?_
     refine⟨_,rfl,?_⟩
     refine⟨((k+1:Nat):Int),by rw [Int.natCast_add];exact wrap_i64 (by omega) (by omega),?_⟩
     exact⟨(k+1,nxt),⟨by show k+1≤ds.length;omega,k4⟩,ent_of [] [(2,5),(3,3)] [] rfl (sk) ⟨⟨_,rfl,rfl,rfl,sk⟩,⟨_,rfl,rfl,rfl,rfl⟩,⟨_,rfl,rfl,rfl,congrArg Cn.ms (by rw [hi2,putM_new hi1])⟩,⟨_,rfl,rfl,rfl,sk⟩,trivial⟩ rfl,by show ds.length - (k+1)<ds.length - k;omega⟩
    ·obtain⟨i,hi1,hi2⟩:=hi
     refine⟨by show(0:Int)≤2∧(2:Int)<6;decide,?_⟩
     refine⟨_,rfl,?_⟩
     refine(hG).holds.useT [] [] rfl (sk) (sk) fun e0 H0 hq=>?_
     obtain⟨rfl,rfl⟩:=hq
     refine⟨rfl,_,⟨6,(5,isO nxt)::(1,fmO (mapI (ds.take k)))::(0,ckO ds (k:Nat) 5 nxt.length)::[(4,dcO ⟨2,dn,dnm,dpl,drs,dcs⟩),(3,faO)]⟩,rfl,rfl,?_⟩
     refine VDraw.seq rfl ?_
     refine⟨_, .inl ⟨_,hi1,rfl⟩,?_⟩
     refine⟨((k+1:Nat):Int),by rw [Int.natCast_add];exact wrap_i64 (by omega) (by omega),?_⟩
     exact⟨(k+1,nxt),⟨by show k+1≤ds.length;omega,k4⟩,ent_of [] [(2,5),(3,3)] [] rfl (sk) ⟨⟨_,rfl,rfl,rfl,sk⟩,⟨_,rfl,rfl,rfl,rfl⟩,⟨_,rfl,rfl,rfl,congrArg Cn.ms (hi2.symm)⟩,⟨_,rfl,rfl,rfl,sk⟩,trivial⟩ rfl,by show ds.length - (k+1)<ds.length - k;omega⟩
   ·have hG:=node_hS cur hC ⟨3,dn,dnm,dpl,drs,dcs⟩ hd rfl (by omega) k5
    generalize cur++oneI (ds.take k) ⟨3,dn,dnm,dpl,drs,dcs⟩ (grainI ds)=nxt at hG k4
    refine VDraw.seq rfl ?_
    refine Or.elim hor (fun hi=>?_) (fun hi=>?_)
    ·obtain⟨hi1,hi2⟩:=hi
     refine⟨by show(0:Int)≤3∧(3:Int)<6;decide,?_⟩
     refine⟨_,rfl,?_⟩
     refine(hG).holds.useT [] [] rfl (sk) (sk) fun e0 H0 hq=>?_
     obtain⟨rfl,rfl⟩:=hq
     refine⟨rfl,_,⟨6,(5,isO nxt)::(1,fmO (mapI (ds.take k)))::(0,ckO ds (k:Nat) 5 nxt.length)::[(4,dcO ⟨3,dn,dnm,dpl,drs,dcs⟩),(3,faO)]⟩,rfl,rfl,?_⟩
     refine VDraw.seq rfl ?_
     refine⟨_, .inr ⟨hi1,rfl⟩,?_⟩
     refine And.intro (fun h=>absurd h hb) (fun _=>?_)
     refine vdraw_ot otP10 (by kernel_rfl) ?_
     refine⟨_,rfl,?_⟩
     refine⟨((k+1:Nat):Int),by rw [Int.natCast_add];exact wrap_i64 (by omega) (by omega),?_⟩
     exact⟨(k+1,nxt),⟨by show k+1≤ds.length;omega,k4⟩,ent_of [] [(2,5),(3,3)] [] rfl (sk) ⟨⟨_,rfl,rfl,rfl,sk⟩,⟨_,rfl,rfl,rfl,rfl⟩,⟨_,rfl,rfl,rfl,congrArg Cn.ms (by rw [hi2,putM_new hi1])⟩,⟨_,rfl,rfl,rfl,sk⟩,trivial⟩ rfl,by show ds.length - (k+1)<ds.length - k;omega⟩
    ·obtain⟨i,hi1,hi2⟩:=hi
     refine⟨by show(0:Int)≤3∧(3:Int)<6;decide,?_⟩
     refine⟨_,rfl,?_⟩
     refine(hG).holds.useT [] [] rfl (sk) (sk) fun e0 H0 hq=>?_
     obtain⟨rfl,rfl⟩:=hq
     refine⟨rfl,_,⟨6,(5,isO nxt)::(1,fmO (mapI (ds.take k)))::(0,ckO ds (k:Nat) 5 nxt.length)::[(4,dcO ⟨3,dn,dnm,dpl,drs,dcs⟩),(3,faO)]⟩,rfl,rfl,?_⟩
     refine VDraw.seq rfl ?_
     refine⟨_, .inl ⟨_,hi1,rfl⟩,?_⟩
     refine⟨((k+1:Nat):Int),by rw [Int.natCast_add];exact wrap_i64 (by omega) (by omega),?_⟩
     exact⟨(k+1,nxt),⟨by show k+1≤ds.length;omega,k4⟩,ent_of [] [(2,5),(3,3)] [] rfl (sk) ⟨⟨_,rfl,rfl,rfl,sk⟩,⟨_,rfl,rfl,rfl,rfl⟩,⟨_,rfl,rfl,rfl,congrArg Cn.ms (hi2.symm)⟩,⟨_,rfl,rfl,rfl,sk⟩,trivial⟩ rfl,by show ds.length - (k+1)<ds.length - k;omega⟩
   ·have hG:=choose_hS cur hC ⟨4,dn,dnm,dpl,drs,dcs⟩ hd rfl k5
    generalize cur++oneI (ds.take k) ⟨4,dn,dnm,dpl,drs,dcs⟩ (grainI ds)=nxt at hG k4
    refine VDraw.seq rfl ?_
    refine Or.elim hor (fun hi=>?_) (fun hi=>?_)
    ·obtain⟨hi1,hi2⟩:=hi
     refine⟨by show(0:Int)≤4∧(4:Int)<6;decide,?_⟩
     refine⟨_,rfl,?_⟩
     refine(hG).holds.useT [] [] rfl (sk) (sk) fun e0 H0 hq=>?_
     obtain⟨rfl,rfl⟩:=hq
     refine⟨rfl,_,⟨6,(5,isO nxt)::(1,fmO (mapI (ds.take k)))::(0,ckO ds (k:Nat) 5 nxt.length)::[(4,dcO ⟨4,dn,dnm,dpl,drs,dcs⟩),(3,faO)]⟩,rfl,rfl,?_⟩
     refine VDraw.seq rfl ?_
     refine⟨_, .inr ⟨hi1,rfl⟩,?_⟩
     refine And.intro (fun h=>absurd h hb) (fun _=>?_)
     refine vdraw_ot otP10 (by kernel_rfl) ?_
     refine⟨_,rfl,?_⟩
     refine⟨((k+1:Nat):Int),by rw [Int.natCast_add];exact wrap_i64 (by omega) (by omega),?_⟩
     exact⟨(k+1,nxt),⟨by show k+1≤ds.length;omega,k4⟩,ent_of [] [(2,5),(3,3)] [] rfl (sk) ⟨⟨_,rfl,rfl,rfl,sk⟩,⟨_,rfl,rfl,rfl,rfl⟩,⟨_,rfl,rfl,rfl,congrArg Cn.ms (by rw [hi2,putM_new hi1])⟩,⟨_,rfl,rfl,rfl,sk⟩,trivial⟩ rfl,by show ds.length - (k+1)<ds.length - k;omega⟩
    ·obtain⟨i,hi1,hi2⟩:=hi
     refine⟨by show(0:Int)≤4∧(4:Int)<6;decide,?_⟩
     refine⟨_,rfl,?_⟩
     refine(hG).holds.useT [] [] rfl (sk) (sk) fun e0 H0 hq=>?_
     obtain⟨rfl,rfl⟩:=hq
     refine⟨rfl,_,⟨6,(5,isO nxt)::(1,fmO (mapI (ds.take k)))::(0,ckO ds (k:Nat) 5 nxt.length)::[(4,dcO ⟨4,dn,dnm,dpl,drs,dcs⟩),(3,faO)]⟩,rfl,rfl,?_⟩
     refine VDraw.seq rfl ?_
     refine⟨_, .inl ⟨_,hi1,rfl⟩,?_⟩
     refine⟨((k+1:Nat):Int),by rw [Int.natCast_add];exact wrap_i64 (by omega) (by omega),?_⟩
     exact⟨(k+1,nxt),⟨by show k+1≤ds.length;omega,k4⟩,ent_of [] [(2,5),(3,3)] [] rfl (sk) ⟨⟨_,rfl,rfl,rfl,sk⟩,⟨_,rfl,rfl,rfl,rfl⟩,⟨_,rfl,rfl,rfl,congrArg Cn.ms (hi2.symm)⟩,⟨_,rfl,rfl,rfl,sk⟩,trivial⟩ rfl,by show ds.length - (k+1)<ds.length - k;omega⟩
   ·exact absurd (hbare (.inr rfl)) hb
def scO (ds:List De):AObj:=⟨40,false, .bx [.p (des ds)]⟩
theorem issues_c (ds:List De) (hb:BigP ds):Pure cx 9 [srcV ds] (·=.ret (issV ds)):=by
 have hC:=pcheck_c ds hb
 rw [chkV] at hC
 by_cases hv:validB ds=true
 ·have hI:issV ds=[isl (allI ds),i64 0]:=by rw [issV,if_pos hv]
  rw [hI]
  rw [if_pos hv] at hC
  refine pure_of_vc Tryz.func9 rfl rfl rfl ?_
  refine hC.eq rfl ?_
  refine And.intro (fun _=>?_) (fun h=>absurd rfl h)
  refine(program_hS ds hv).holds.useT [] [(0,2)] rfl (sk) (sk) fun e0 H0 hq=>?_
  obtain⟨rfl,b,es,rfl⟩:=hq
  generalize allI ds=R
  refine⟨rfl,_,⟨4,(3,isO R)::(1,fmO es)::(2,ckO ds (b:Nat) 3 R.length)::[(0,scO ds)]⟩,rfl,rfl,?_⟩
  exact end2 (isl R) (i64 0) rfl ⟨_,rfl,by show 0+R.length≤(R.map Iss.cells).length;simp,takeAll (by simp)⟩ rfl rfl
 ·have hI:issV ds=[isl [],i64 380]:=by rw [issV,if_neg hv]
  rw [hI]
  rw [if_neg hv] at hC
  refine pure_of_vc Tryz.func9 rfl rfl rfl ?_
  refine hC.eq rfl ?_
  refine And.intro (fun h=>absurd (show(380:Int)=0 from h) (by decide)) (fun _=>?_)
  exact end2 (isl []) (i64 380) rfl (.inr (.inr ⟨3,rfl⟩)) rfl rfl
theorem scheck_c (ds:List De) (hb:BigP ds):Pure cx 17 [srcV ds] (·=.ret [i64 (scopeE ds)]):=by
 have hI:=issues_c ds hb
 rw [issV] at hI
 by_cases hv:validB ds=true
 ·rw [if_pos hv] at hI
  by_cases hn:allI ds=[]
  ·have hs:scopeE ds=0:=by rw [scopeE,if_pos hv,if_pos hn]
   rw [hs]
   rw [hn] at hI
   refine pure_of_vc Tryz.func17 rfl rfl rfl ?_
   refine hI.eq rfl ?_
   refine And.intro (fun _=>?_) (fun h=>absurd rfl h)
   refine And.intro (fun h=>absurd (show(0:Int)<0 from h) (by decide)) (fun _=>?_)
   exact end1 _ rfl rfl rfl
  ·have hs:scopeE ds=390:=by rw [scopeE,if_pos hv,if_neg hn]
   have hl:1≤(allI ds).length:=List.length_pos_iff.2 hn
   rw [hs]
   generalize allI ds=R at hI hl
   refine pure_of_vc Tryz.func17 rfl rfl rfl ?_
   refine hI.eq rfl ?_
   refine And.intro (fun _=>?_) (fun h=>absurd rfl h)
   refine And.intro (fun _=>?_) (fun h=>absurd (show(0:Int)<((R.map Iss.cells).length:Nat) by rw [List.length_map];omega) h)
   exact end1 _ rfl rfl rfl
 ·rw [if_neg hv] at hI
  have hs:scopeE ds=380:=by rw [scopeE,if_neg hv]
  rw [hs]
  refine pure_of_vc Tryz.func17 rfl rfl rfl ?_
  refine hI.eq rfl ?_
  refine And.intro (fun h=>absurd (show(380:Int)=0 from h) (by decide)) (fun _=>?_)
  exact end1 _ rfl rfl rfl
theorem find_put (a:List UInt8) (x:PV) (b:List UInt8):∀ es:List (List UInt8 × PV),findM (putM es a x) b=if b=a then some x else findM es b
 | []=>by
  show(match decide (b=a) with | true=>some x | false=>none)=if b=a then some x else none
  by_cases h:b=a
  ·rw [decide_eq_true h,if_pos h]
  ·rw [decide_eq_false h,if_neg h]
 | (k,y)::r=>by
  rw [putM]
  by_cases h:a=k
  ·rw [decide_eq_true h]
   show findM ((k,x)::r) b=_
   rw [findM,findM]
   by_cases h2:b=k
   ·rw [decide_eq_true h2,if_pos (h2.trans h.symm)]
   ·rw [decide_eq_false h2,if_neg (fun e=>h2 (e.trans h))]
  ·rw [decide_eq_false h]
   show findM ((k,y)::putM r a x) b=_
   rw [findM,findM,find_put a x b r]
   by_cases h2:b=k
   ·rw [decide_eq_true h2]
    show some y=if b=a then some x else some y
    rw [if_neg (fun e=>h (e.symm.trans h2))]
   ·rw [decide_eq_false h2]
structure SzM (ds:List De) (k:Nat) (es:List (List UInt8 × PV)):Prop where
 one:findM es []=some (i64 1)
 plate:∀ nm,nm ≠ []→∀ t,fstV (ds.take k) nm=some t→t.kind=2→findM es nm=some (i64 t.n)
theorem fst_next {ds:List De} {k:Nat} (hk:k<ds.length) {nm:List UInt8} {t:De} (h:fstV (ds.take (k+1)) nm=some t):fstV (ds.take k) nm=some t∨(fstV (ds.take k) nm=none∧t=ds.getD k de0∧t.name=nm):=by
 rw [take_succ_getD de0 hk] at h
 cases hf:fstV (ds.take k) nm with
 | some u=>rw [fstV_app hf] at h;exact .inl h
 | none=>
  have hm:=fstV_mem h
  rw [fstV_find,List.find?_append,← fstV_find,hf] at h
  have h2:=List.mem_of_find?_eq_some (show [ds.getD k de0].find? (fun d=>decide (d.name=nm))=some t from h)
  exact .inr ⟨rfl,List.mem_singleton.1 h2,hm.2⟩
theorem no_twice {l:List De} {d:De} {g:Int} (h:oneI l d g=[]) (hk:d.kind=2∨d.kind=3∨d.kind=4):fstV l d.name=none:=by
 have ht:twiceI l d=[]:=by
  unfold oneI at h
  rcases hk with hk | hk | hk
  ·rw [if_neg (by omega),if_pos hk] at h
   exact(List.append_eq_nil_iff.1 h).1
  ·rw [if_neg (by omega),if_neg (by omega),if_pos hk] at h
   exact(List.append_eq_nil_iff.1 h).1
  ·rw [if_neg (by omega),if_neg (by omega),if_neg (by omega),if_pos hk] at h
   exact(List.append_eq_nil_iff.1 h).1
 unfold twiceI at ht
 split at ht
 ·cases ht
 ·rename_i hn
  cases hf:fstI l d.name with
  | none=>exact fstV_none hf
  | some i=>rw [hf] at hn;exact absurd rfl hn
theorem SzM.put {ds:List De} {k:Nat} {es:List (List UInt8 × PV)} (h:SzM ds k es) (hk:k<ds.length) (h2:fstV (ds.take k) (ds.getD k de0).name=none) (hn:(ds.getD k de0).name ≠ []):SzM ds (k+1) (putM es (ds.getD k de0).name (i64 (ds.getD k de0).n)):=by
 refine⟨by rw [find_put,if_neg (fun e=>hn e.symm)];exact h.one,fun nm hnm t ht hk2=>?_⟩
 rw [find_put]
 rcases fst_next hk ht with h3 | ⟨h3,h4,h5⟩
 ·rw [if_neg (fun e=>by rw [e,h2] at h3;cases h3)]
  exact h.plate nm hnm t h3 hk2
 ·rw [if_pos (by rw [← h5,h4]),h4]
theorem SzM.skip {ds:List De} {k:Nat} {es:List (List UInt8 × PV)} (h:SzM ds k es) (hk:k<ds.length) (h2:¬ (ds.getD k de0).kind=2):SzM ds (k+1) es:=by
 refine⟨h.one,fun nm hnm t ht hk2=>?_⟩
 rcases fst_next hk ht with h3 | ⟨h3,h4,h5⟩
 ·exact h.plate nm hnm t h3 hk2
 ·rw [h4] at hk2;exact absurd hk2 h2
theorem syms_next {ds:List De} {k:Nat} (hk:k<ds.length):symsI [] (ds.take (k+1))=symsI [] (ds.take k)++(if (ds.getD k de0).kind=2∨(ds.getD k de0).kind=3∨(ds.getD k de0).kind=4 then [symOf (ds.take k) (ds.getD k de0)] else []):=by
 have app:∀ (a l:List De) (d:De),symsI l (a++[d])=symsI l a++(if d.kind=2∨d.kind=3∨d.kind=4 then [symOf (l++a) d] else []):=by
  intro a
  induction a with
  | nil=>intro l d;rw [List.nil_append,symsI,symsI,symsI,List.append_nil,List.append_nil];rfl
  | cons x a ih=>
   intro l d
   rw [List.cons_append,symsI,symsI,ih,List.append_assoc l [x] a,List.append_assoc];rfl
 rw [take_succ_getD de0 hk,app];rfl
def syO (l:List Sy):AObj:=⟨70,false, .pus (l.map Sy.cells)⟩
theorem symbols_c (ds:List De) (hb:BigP ds):Pure cx 19 [srcV ds] (·=.ret (symV ds)):=by
 have hC:=scheck_c ds hb
 rw [symV]
 by_cases hs:scopeE ds=0
 rotate_left
 ·rw [if_neg hs]
  generalize scopeE ds=e at hC hs
  refine pure_of_vc Tryz.func19 rfl rfl rfl ?_
  refine hC.eq rfl ?_
  refine And.intro (fun h=>absurd (show e=0 from h) hs) (fun _=>?_)
  exact end2 (syl []) (i64 e) rfl (.inr (.inr ⟨5,rfl⟩)) rfl rfl
 rw [if_pos hs]
 rw [hs] at hC
 have hv:validB ds=true:=by
  by_cases hv:validB ds=true
  ·exact hv
  ·rw [scopeE,if_neg hv] at hs;cases hs
 have hn:allI ds=[]:=by
  by_cases hn:allI ds=[]
  ·exact hn
  ·rw [scopeE,if_pos hv,if_neg hn] at hs;cases hs
 obtain⟨hlen,hdv⟩:=valid_dcs hv
 have hno:=(base_nil hn).2.1
 have hm:(ds.map De.cells).length=ds.length:=List.length_map ..
 refine pure_of_vc Tryz.func19 rfl rfl rfl ?_
 refine hC.eq rfl ?_
 refine And.intro (fun _=>?_) (fun h=>absurd rfl h)
 refine⟨_,rfl,?_⟩
 refine⟨Nat × List (List UInt8 × PV) × List Sy,fun x=>[(5, .mp 1),(6, .sl 2 5 0 x.2.2.length),(17, .p (des ds)),(18, .p (i64 ds.length)),(19, .p (i64 x.1))],fun x=>⟨3,[(2,syO x.2.2),(1,fmO x.2.1)]⟩,fun x=>x.1≤ds.length∧SzM ds x.1 x.2.1∧x.2.2=symsI [] (ds.take x.1),fun x=>ds.length - x.1,?_,?_⟩
 ·exact⟨(0,[([],i64 1)],[]),⟨Nat.zero_le _,⟨rfl,fun nm _ t ht _=>by cases ht⟩,rfl⟩,ent_of [] [] [(2,5)] rfl ⟨sk,sk,rfl,congrArg (fun n:Nat=>i64 n) hm.symm,rfl,trivial⟩ (sk) rfl⟩
 rintro⟨k,es,cur⟩ ⟨k1,k2,k3⟩
 simp only [] at k1 k2 k3
 have hcl:cur.length≤30:=by
  rw [k3,symsI_len]
  have:=List.length_filter_le (fun d:De=>decide (d.kind=2∨d.kind=3∨d.kind=4)) (ds.take k)
  rw [List.length_take] at this;omega
 (first | refine brLt (fun m1=>?_) (fun m1=>?_) | refine brLe (fun m1=>?_) (fun m1=>?_) | refine brEq (fun m1=>?_) (fun m1=>?_))
 rotate_left
 ·have m1:¬ (k:Int)<(ds.length:Nat):=m1
  rw [show ds.take k=ds from take_all (by omega)] at k3
  exact end2 (syl cur) (i64 0) rfl ⟨_,rfl,by show 0+cur.length≤(cur.map Sy.cells).length;simp,takeAll (by simp)⟩ rfl (by rw [k3])
 have m1:(k:Int)<(ds.length:Nat):=m1
 have hk:k<ds.length:=by omega
 have hcell:=decell hk
 have hd:=hdv _ (getD_memL de0 hk)
 have h1:=eachI_at ds [] hno k hk
 rw [List.nil_append] at h1
 have hS:=syms_next hk
 rw [← k3] at hS
 have hput:=k2.put hk
 have hskip:=k2.skip hk
 generalize ds.getD k de0=d at hcell hd h1 hS hput hskip
 have ht:=fun h=>no_twice h1 h
 have hp:=fun h3 hp=>oneI_plate h1 h3 hp
 clear h1
 have hkind:=hd.ok.ok.kind
 have hname:=hd.ok.ok.name
 have hplate:=hd.ok.ok.plate
 obtain⟨dk,dn,dnm,dpl,drs,dcs⟩:=d
 simp only [] at hkind hname hplate hput hskip hS ht hp
 refine⟨_,⟨by omega,(De.mk dk dn dnm dpl drs dcs).cells,hcell,rfl⟩,?_⟩
 (first | refine brLt (fun q2=>?_) (fun q2=>?_) | refine brLe (fun q2=>?_) (fun q2=>?_) | refine brEq (fun q2=>?_) (fun q2=>?_))
 ·have q2:dk=2:=q2
  have hM:=hput (ht (.inl q2)) (hname (.inl q2))
  rw [if_pos (.inl q2),symOf,if_pos q2] at hS
  subst q2
  refine⟨_,rfl,?_⟩
  refine⟨by show 0+1≤1;omega,[Sy.cells (Sy.mk dnm 2 [] 0 dn)],rfl,?_⟩
  refine⟨by show 0+cur.length≤(cur.map Sy.cells).length;simp,cur.map Sy.cells,takeAll (by simp),by show(cur.length+1) * 56≤140737488355328;omega,(cur++[(Sy.mk dnm 2 [] 0 dn)]).map Sy.cells,by rw [List.map_append];rfl,?_⟩
  refine⟨_,wrap_i64 (by omega) (by omega),?_⟩
  exact⟨(k+1,putM es dnm (i64 dn),cur++[(Sy.mk dnm 2 [] 0 dn)]),⟨by show k+1≤ds.length;omega,hM,by rw [hS]⟩,ent_of [] [(2,5)] [] rfl ⟨sk,congrArg (fun j:Nat=>AV.sl 5 5 0 j) (snoc_len cur (Sy.mk dnm 2 [] 0 dn)).symm,rfl,rfl,rfl,trivial⟩ (sk) rfl,by show ds.length - (k+1)<ds.length - k;omega⟩
 have q2:¬ dk=2:=q2
 have hM:=hskip q2
 (first | refine brLt (fun q3=>?_) (fun q3=>?_) | refine brLe (fun q3=>?_) (fun q3=>?_) | refine brEq (fun q3=>?_) (fun q3=>?_))
 ·have q3:dk=3:=q3
  rw [if_pos (.inr (.inl q3)),symOf,if_neg q2] at hS
  by_cases h0:dpl=[]
  ·simp only [if_pos h0] at hS
   have hf:findM es dpl=some (i64 1):=by rw [h0];exact k2.one
   refine⟨_, .inl ⟨_,hf,rfl⟩,?_⟩
   refine⟨by show 0+1≤1;omega,[Sy.cells (Sy.mk dnm dk dpl dn 1)],rfl,?_⟩
   refine⟨by show 0+cur.length≤(cur.map Sy.cells).length;simp,cur.map Sy.cells,takeAll (by simp),by show(cur.length+1) * 56≤140737488355328;omega,(cur++[(Sy.mk dnm dk dpl dn 1)]).map Sy.cells,by rw [List.map_append];rfl,?_⟩
   refine⟨_,wrap_i64 (by omega) (by omega),?_⟩
   exact⟨(k+1,es,cur++[(Sy.mk dnm dk dpl dn 1)]),⟨by show k+1≤ds.length;omega,hM,by rw [hS]⟩,ent_of [] [(2,5)] [] rfl ⟨sk,congrArg (fun j:Nat=>AV.sl 5 5 0 j) (snoc_len cur (Sy.mk dnm dk dpl dn 1)).symm,rfl,rfl,rfl,trivial⟩ (sk) rfl,by show ds.length - (k+1)<ds.length - k;omega⟩
  ·simp only [if_neg h0] at hS
   obtain⟨t,ht1,ht2⟩:=hp q3 h0
   have hf:=k2.plate dpl h0 t ht1 ht2
   rw [sizeV,ht1] at hS
   simp only [if_pos ht2] at hS
   refine⟨_, .inl ⟨_,hf,rfl⟩,?_⟩
   refine⟨by show 0+1≤1;omega,[Sy.cells (Sy.mk dnm dk dpl dn t.n)],rfl,?_⟩
   refine⟨by show 0+cur.length≤(cur.map Sy.cells).length;simp,cur.map Sy.cells,takeAll (by simp),by show(cur.length+1) * 56≤140737488355328;omega,(cur++[(Sy.mk dnm dk dpl dn t.n)]).map Sy.cells,by rw [List.map_append];rfl,?_⟩
   refine⟨_,wrap_i64 (by omega) (by omega),?_⟩
   exact⟨(k+1,es,cur++[(Sy.mk dnm dk dpl dn t.n)]),⟨by show k+1≤ds.length;omega,hM,by rw [hS]⟩,ent_of [] [(2,5)] [] rfl ⟨sk,congrArg (fun j:Nat=>AV.sl 5 5 0 j) (snoc_len cur (Sy.mk dnm dk dpl dn t.n)).symm,rfl,rfl,rfl,trivial⟩ (sk) rfl,by show ds.length - (k+1)<ds.length - k;omega⟩
 have q3:¬ dk=3:=q3
 (first | refine brLt (fun q4=>?_) (fun q4=>?_) | refine brLe (fun q4=>?_) (fun q4=>?_) | refine brEq (fun q4=>?_) (fun q4=>?_))
 ·have q4:dk=4:=q4
  rw [if_pos (.inr (.inr q4)),symOf,if_neg q2] at hS
  have h0:=hplate q3
  simp only [if_pos h0] at hS
  have hf:findM es dpl=some (i64 1):=by rw [h0];exact k2.one
  refine⟨_, .inl ⟨_,hf,rfl⟩,?_⟩
  refine⟨by show 0+1≤1;omega,[Sy.cells (Sy.mk dnm dk dpl dn 1)],rfl,?_⟩
  refine⟨by show 0+cur.length≤(cur.map Sy.cells).length;simp,cur.map Sy.cells,takeAll (by simp),by show(cur.length+1) * 56≤140737488355328;omega,(cur++[(Sy.mk dnm dk dpl dn 1)]).map Sy.cells,by rw [List.map_append];rfl,?_⟩
  refine⟨_,wrap_i64 (by omega) (by omega),?_⟩
  exact⟨(k+1,es,cur++[(Sy.mk dnm dk dpl dn 1)]),⟨by show k+1≤ds.length;omega,hM,by rw [hS]⟩,ent_of [] [(2,5)] [] rfl ⟨sk,congrArg (fun j:Nat=>AV.sl 5 5 0 j) (snoc_len cur (Sy.mk dnm dk dpl dn 1)).symm,rfl,rfl,rfl,trivial⟩ (sk) rfl,by show ds.length - (k+1)<ds.length - k;omega⟩
 ·have q4:¬ dk=4:=q4
  rw [if_neg (by omega),List.append_nil] at hS
  refine⟨_,wrap_i64 (by omega) (by omega),?_⟩
  exact⟨(k+1,es,cur),⟨by show k+1≤ds.length;omega,hM,by rw [hS]⟩,ent_of [] [] [] rfl (sk) (sk) rfl,by show ds.length - (k+1)<ds.length - k;omega⟩
structure DcZ (d:De):Prop where
 two:d.kind=2→d.refs=[]∧d.cases=[]
 four:d.kind=4→d.cases=[]
abbrev otS6:OT:=(.pure 0 (.pure 1 (.pure 2 (.pure 3 (.pure 4 (.pure 5 (.pure 6 (.pure 7 (.pure 8 .fin)))))))))
def is0:Iss:=⟨0,0,[]⟩
theorem iscell {l:List Iss} {k:Nat} (h:k<l.length):(l.map Iss.cells)[k]?=some (l.getD k is0).cells:=map_at is0 h
theorem is_ext {a b:Iss} (h:a.cells=b.cells):a=b:=by
 obtain⟨x,y,z⟩:=a
 obtain⟨x',y',z'⟩:=b
 injection h with h1 h
 injection h with h2 h
 injection h with h3 h
 injection h1 with _ h1
 injection h2 with _ h2
 injection h3 with h3
 subst h1 h2 h3
 rfl
theorem issame_c (a b:List Iss) (_ha:a.length≤1000000) (hb:b.length≤1000000):Pure cx 11 [isl a,isl b] (·=.ret [.bool (decide (a=b))]):=by
 have hma:(a.map Iss.cells).length=a.length:=List.length_map ..
 have hmb:(b.map Iss.cells).length=b.length:=List.length_map ..
 refine pure_of_vc Tryz.func11 rfl rfl rfl ?_
 refine And.intro (fun h1=>?_) (fun h1=>?_)
 rotate_left
 ·have h1:¬ ((a.map Iss.cells).length:Int)=((b.map Iss.cells).length:Nat):=h1
  rw [hma,hmb] at h1
  exact end1 _ rfl rfl (retB (decide_eq_false fun e=>h1 (by rw [e])).symm)
 have h1:((a.map Iss.cells).length:Int)=((b.map Iss.cells).length:Nat):=h1
 rw [hma,hmb] at h1
 refine⟨Nat,fun k=>[(0, .p (isl a)),(1, .p (isl b)),(5, .p (i64 k))],fun _=>⟨0,[]⟩,fun k=>k≤a.length∧a.take k=b.take k,fun k=>a.length - k,?_,?_⟩
 ·exact⟨0,⟨Nat.zero_le _,by simp⟩,ent_of [] [] [] rfl (sk) trivial rfl⟩
 rintro k ⟨k1,k2⟩
 (first | refine brLt (fun m1=>?_) (fun m1=>?_) | refine brLe (fun m1=>?_) (fun m1=>?_) | refine brEq (fun m1=>?_) (fun m1=>?_))
 rotate_left
 ·have m1:¬ (k:Int)<((a.map Iss.cells).length:Nat):=m1
  rw [hma] at m1
  rw [take_all (by omega),take_all (by omega)] at k2
  exact end1 _ rfl rfl (retB (decide_eq_true k2).symm)
 have m1:(k:Int)<((a.map Iss.cells).length:Nat):=m1
 rw [hma] at m1
 have hk:k<a.length:=by omega
 have hkb:k<b.length:=by omega
 have ca:=iscell hk
 have cb':=iscell hkb
 have hs:a.take (k+1)=b.take (k+1) ↔ a.getD k is0=b.getD k is0:=by
  rw [take_succ_getD is0 hk,take_succ_getD is0 hkb,k2]
  constructor
  ·intro h;have:=List.append_cancel_left h;injection this
  ·intro h;rw [h]
 have hne:¬ a.getD k is0=b.getD k is0→¬ a=b:=fun h e=>h (by rw [e])
 generalize a.getD k is0=x at ca hs hne
 generalize b.getD k is0=y at cb' hs hne
 refine vdraw_ot otS6 (by kernel_rfl) ?_
 refine⟨_,⟨by omega,x.cells,ca,rfl⟩,?_⟩
 refine⟨_,⟨by omega,y.cells,cb',rfl⟩,?_⟩
 refine⟨⟨by kernel_rfl,by kernel_rfl⟩,fun e1=>?_,fun e1=>?_⟩
 ·have e1:x=y:=is_ext (by first | exact e1 | (injection e1))
  refine⟨_,wrap_i64 (by omega) (by omega),?_⟩
  exact⟨k+1,⟨by omega,hs.2 e1⟩,ent_of [] [] [] rfl (sk) trivial rfl,by show a.length - (k+1)<a.length - k;omega⟩
 ·have e1:¬ x=y:=fun e=>e1 (by rw [e])
  exact end1 _ rfl rfl (retB (decide_eq_false (hne e1)).symm)
structure WI (W P:Nat):Prop where
 eq:W≤1024→W=P
 big:1024<W→1024<P
 hi:W≤4096
set_option maxHeartbeats 4000000
set_option maxHeartbeats 40000000
theorem parR_big {s:List UInt8} {ds:List De} (h:parR s=.inr ds):BigP ds:=by
 unfold parR at h
 split at h
 ·cases h
 ·cases hr:readR s with
  | err p c=>rw [hr] at h;cases h
  | ok ws=>
   rw [hr] at h
   have hg:=read_good hr
   have hl:=hg.len
   cases hp:progR ws (fuelW ws) (fuelW ws) [] 0 with
   | inl q=>simp only [hp] at h;cases h
   | inr x=>
    obtain⟨l,q⟩:=x
    simp only [hp] at h
    split at h
    ·injection h with h
     subst h
     exact prog_bigP hg (by rw [fuelW];omega) hp
    ·cases h
theorem parR_valid {s:List UInt8} {ds:List De} (h:parR s=.inr ds):validB ds=true:=by
 unfold parR at h
 split at h
 ·cases h
 ·cases hr:readR s with
  | err p c=>rw [hr] at h;cases h
  | ok ws=>
   rw [hr] at h
   cases hp:progR ws (fuelW ws) (fuelW ws) [] 0 with
   | inl q=>simp only [hp] at h;cases h
   | inr x=>
    obtain⟨l,q⟩:=x
    simp only [hp] at h
    split at h
    ·rename_i hv
     injection h with h
     subst h
     exact hv
    ·cases h
abbrev hdS:List UInt8:=[103,114,97,105,110,32,52,32,59,32,112,108,97,116,101,32,112,32,61,32,50,32,59,32,110,111,100,101,32,97,32,91,32,112,32,93,32,58,32,50,32,61,32,123,32,101,108,115,101,32,58,32,49,32,51,32,125,32,59,32]
theorem headc_c:Pure cx 22 [] (·=.ret [.str hdS]):=by
 refine pure_of_vc Tryz.func22 rfl rfl rfl ?_
 exact end1 _ rfl rfl rfl
theorem issue_c (k d:Int) (nm:List UInt8):Pure cx 15 [i64 k,i64 d, .str nm] (·=.ret [.agg (Iss.mk k d nm).cells]):=by
 refine pure_of_vc Tryz.func15 rfl rfl rfl ?_
 exact end1 _ rfl rfl rfl
def okS (s:List UInt8) (want:List Iss):Bool:=match parR s with
 | .inl _=>false
 | .inr ds=>decide (allI ds=want)
theorem says_yes (s:List UInt8) (want:List Iss) (h:okS s want=true) (hl:want.length≤1000000):Pure cx 24 [.str s,isl want] (·=.ret [.bool true]):=by
 have hP:=parse_c s
 rw [okS] at h
 cases hp:parR s with
 | inl x=>rw [hp] at h;cases h
 | inr ds=>
  rw [hp] at h hP
  have ha:allI ds=want:=of_decide_eq_true h
  have hb:=parR_big hp
  have hv:=parR_valid hp
  have hI:=issues_c ds hb
  have hC:=scheck_c ds hb
  have hS:=issame_c want want hl hl
  rw [decide_eq_true (show want=want from rfl)] at hS
  rw [issV,if_pos hv,ha] at hI
  rw [scopeE,if_pos hv,ha] at hC
  clear h hp
  by_cases hn:want=[]
  ·rw [if_pos hn] at hC
   subst hn
   refine pure_of_vc Tryz.func24 rfl rfl rfl ?_
   refine hP.eq rfl ?_
   refine hI.eq rfl ?_
   refine hC.eq rfl ?_
   refine And.intro (fun _=>?_) (fun h=>absurd rfl h)
   refine And.intro (fun _=>?_) (fun h=>absurd rfl h)
   refine hS.eq rfl ?_
   refine And.intro (fun _=>?_) (fun h=>absurd rfl h)
   refine And.intro (fun _=>?_) (fun h=>absurd rfl h)
   refine And.intro (fun _=>?_) (fun h=>absurd rfl h)
   refine And.intro (fun _=>?_) (fun h=>absurd rfl h)
   exact end1 _ rfl rfl rfl
  ·rw [if_neg hn] at hC
   have hp1:1≤want.length:=List.length_pos_iff.2 hn
   have hm:(want.map Iss.cells).length=want.length:=List.length_map ..
   refine pure_of_vc Tryz.func24 rfl rfl rfl ?_
   refine hP.eq rfl ?_
   refine hI.eq rfl ?_
   refine hC.eq rfl ?_
   refine And.intro (fun _=>?_) (fun h=>absurd rfl h)
   refine And.intro (fun _=>?_) (fun h=>absurd rfl h)
   refine hS.eq rfl ?_
   refine And.intro (fun h=>absurd (show(390:Int)=0 from h) (by decide)) (fun _=>?_)
   refine And.intro (fun h=>absurd (show((want.map Iss.cells).length:Int)=0 from h) (by rw [hm];omega)) (fun _=>?_)
   refine And.intro (fun _=>?_) (fun h=>absurd rfl h)
   refine And.intro (fun h=>absurd (show(390:Int)=0 from h) (by decide)) (fun _=>?_)
   refine And.intro (fun _=>?_) (fun h=>absurd rfl h)
   exact end1 _ rfl rfl rfl
theorem sy_h:okS hdS []=true:=by kernel_rfl
abbrev syT0:List UInt8:=[110,111,100,101,32,98,32,58,32,51,32,102,114,111,109,32,97,32,91,32,49,32,93,32,44,32,99,32,61,32,123,32,97,32,91,32,49,32,93,32,61,32,50,32,58,32,52,32,48,32,48,32,59,32,101,108,115,101,32,58,32,49,32,51,32,125,32,59]
abbrev syW0:List Iss:=[⟨3,3,[99]⟩,⟨8,3,[97]⟩,⟨9,3,[]⟩]
theorem sy_0:okS (hdS++syT0) syW0=true:=by kernel_rfl
abbrev syT1:List UInt8:=[110,111,100,101,32,98,32,58,32,50,32,102,114,111,109,32,97,32,61,32,123,32,97,32,91,32,48,32,93,32,61,32,49,32,58,32,52,32,48,32,59,32,101,108,115,101,32,58,32,48,32,52,32,125,32,59]
abbrev syW1:List Iss:=[⟨4,3,[97]⟩,⟨7,3,[97]⟩]
theorem sy_1:okS (hdS++syT1) syW1=true:=by kernel_rfl
abbrev syT2:List UInt8:=[110,111,100,101,32,98,32,91,32,112,32,93,32,58,32,50,32,102,114,111,109,32,97,32,91,32,112,32,43,32,49,32,93,32,44,32,98,32,91,32,112,32,43,32,49,32,93,32,61,32,123,32,101,108,115,101,32,58,32,50,32,50,32,125,32,59,32,103,97,105,110,32,102,114,111,109,32,98,32,91,32,112,32,93,32,61,32,123,32,101,108,115,101,32,58,32,49,48,49,32,125,32,59]
abbrev syW2:List Iss:=[⟨4,4,[98]⟩,⟨9,4,[]⟩]
theorem sy_2:okS (hdS++syT2) syW2=true:=by kernel_rfl
abbrev syT3:List UInt8:=[112,108,97,116,101,32,112,32,61,32,55,32,59,32,99,104,111,111,115,101,32,112,32,58,32,49,32,59]
abbrev syW3:List Iss:=[⟨1,0,[]⟩,⟨5,0,[112]⟩,⟨2,1,[112]⟩,⟨6,1,[112]⟩]
theorem sy_3:okS syT3 syW3=true:=by kernel_rfl
abbrev syT4:List UInt8:=[110,111,100,101,32,98,32,58,32,52,32,61,32,123,32,101,108,115,101,32,58,32,49,32,49,32,49,32,49,32,125,32,59,32,110,111,100,101,32,99,32,91,32,112,32,93,32,58,32,52,32,61,32,123,32,101,108,115,101,32,58,32,49,32,49,32,49,32,49,32,125,32,59,32,110,111,100,101,32,100,32,91,32,112,32,93,32,58,32,52,32,61,32,123,32,101,108,115,101,32,58,32,49,32,49,32,49,32,49,32,125,32,59]
abbrev syW4:List Iss:=[⟨10,6,[]⟩]
theorem sy_4:okS (hdS++syT4) syW4=true:=by kernel_rfl
theorem works39_c:Pure cx 12 [] (·=.ret [.bool true]):=by
 refine pure_of_vc Tryz.func12 rfl rfl rfl ?_
 refine headc_c.eq rfl ?_
 refine((says_yes hdS [] sy_h (by decide)).arg (args':=[.str hdS, .nils]) ⟨_,_,rfl,rfl,_,_,rfl, .inr (.inr ⟨3,rfl⟩),rfl⟩).eq rfl ?_
 refine headc_c.eq rfl ?_
 refine⟨by show List.length _+List.length _≤9223372036854775807;(try simp) <;> omega,?_⟩
 refine(issue_c 3 3 [99]).eq rfl ?_
 refine(issue_c 8 3 [97]).eq rfl ?_
 refine(issue_c 9 3 []).eq rfl ?_
 refine(says_yes _ syW0 sy_0 (by decide)).lends [0] rfl ⟨_,_,rfl,rfl,_,_,rfl,⟨_,rfl,Nat.le_refl _,rfl⟩,rfl⟩ ?_
 refine headc_c.eq rfl ?_
 refine⟨by show List.length _+List.length _≤9223372036854775807;(try simp) <;> omega,?_⟩
 refine(issue_c 4 3 [97]).eq rfl ?_
 refine(issue_c 7 3 [97]).eq rfl ?_
 refine(says_yes _ syW1 sy_1 (by decide)).lends [1] rfl ⟨_,_,rfl,rfl,_,_,rfl,⟨_,rfl,Nat.le_refl _,rfl⟩,rfl⟩ ?_
 refine headc_c.eq rfl ?_
 refine⟨by show List.length _+List.length _≤9223372036854775807;(try simp) <;> omega,?_⟩
 refine(issue_c 4 4 [98]).eq rfl ?_
 refine(issue_c 9 4 []).eq rfl ?_
 refine(says_yes _ syW2 sy_2 (by decide)).lends [2] rfl ⟨_,_,rfl,rfl,_,_,rfl,⟨_,rfl,Nat.le_refl _,rfl⟩,rfl⟩ ?_
 refine(issue_c 1 0 []).eq rfl ?_
 refine(issue_c 5 0 [112]).eq rfl ?_
 refine(issue_c 2 1 [112]).eq rfl ?_
 refine(issue_c 6 1 [112]).eq rfl ?_
 refine(says_yes _ syW3 sy_3 (by decide)).lends [3] rfl ⟨_,_,rfl,rfl,_,_,rfl,⟨_,rfl,Nat.le_refl _,rfl⟩,rfl⟩ ?_
 refine headc_c.eq rfl ?_
 refine⟨by show List.length _+List.length _≤9223372036854775807;(try simp) <;> omega,?_⟩
 refine(issue_c 10 6 []).eq rfl ?_
 refine(says_yes _ syW4 sy_4 (by decide)).lends [4] rfl ⟨_,_,rfl,rfl,_,_,rfl,⟨_,rfl,Nat.le_refl _,rfl⟩,rfl⟩ ?_
 exact end1 _ rfl rfl rfl
end Go.Proofs.YtmepdfingcmkmaaGreatDoor
namespace Go.Proofs.YtmepdfingcmkmaaGreatDoor.Y
open Go
def partsOf (P:Program) (t:TypeId):Option (List (TypeId × Nat)):=
 match P.underlying t with
 | some (.struct fs)=>some (fs.toList.map fun f=>(f.type,f.offset))
 | some (.array k e)=>some ((List.range k).map fun i=>(e,i * P.cellsOf e))
 | _=>none
def tiles (P:Program):List (TypeId × Nat)→Nat→Option Nat
 | [],o=>some o
 | f::r,o=>if f.2=o then tiles P r (o+P.cellsOf f.1) else none
theorem tiles_le {P:Program}:∀ {l:List (TypeId × Nat)} {o n:Nat},tiles P l o=some n→o≤n
 | [],o,n,h=>by simp only [tiles,Option.some.injEq] at h;omega
 | f::r,o,n,h=>by
  simp only [tiles] at h
  split at h
  ·have:=tiles_le h;omega
  ·cases h
def basic:TypeDesc→Bool
 | .bool=>true
 | .int _=>true
 | .string=>true
 | _=>false
def supp (P:Program):Nat→TypeId→Bool
 | 0,_=>false
 | n+1,t=>match partsOf P t with
  | some l=>decide (tiles P l 0=some (P.cellsOf t)) && l.all fun f=>supp P n f.1
  | none=>match P.underlying t with
   | some (.slice e)=>decide (0<P.cellsOf e) && supp P n e
   | some d=>basic d
   | none=>false
def Flds (P:Program) (p:TypeId→List PV→Prop):List (TypeId × Nat)→List PV→Prop
 | [],xs=>xs=[]
 | f::r,xs=>∃ ys zs,xs=ys++zs∧ys.length=P.cellsOf f.1∧p f.1 ys∧Flds P p r zs
def TyT (P:Program):Nat→TypeId→List PV→Prop
 | 0,_,_=>False
 | m+1,t,xs=>match partsOf P t with
  | some l=>Flds P (TyT P m) l xs
  | none=>match P.underlying t with
   | some .bool=>∃ b,xs=[.bool b]
   | some (.int k)=>∃ n,xs=[.int k n]∧(Lit.int k n).wf=true
   | some .string=>∃ s,xs=[.str s]∧s.length≤maxLen
   | some (.slice e)=>match Nat.beq (P.cellsOf e) 1 with
    | true=>∃ ys,xs=[.lst ys]∧ys.length≤maxLen∧∀ y∈ys,TyT P m e [y]
    | false=>∃ yss,xs=[.lsts (P.cellsOf e) yss]∧yss.length≤maxLen∧∀ ys∈yss,TyT P m e ys
   | _=>False
section
variable {H:Type} {enc:TypeId × Value→H} {P:Program} {W:World} {sp:Nat→Bool} {held:Bool}
theorem cells_take {a:Addr} {n:Nat} {cs:List Value} (hn:0<n) (h:W.cells? 0 a n=some cs) :
  ∃ c t z,W.heap[a.block]?=some (.cells c t z)∧a.spot=none∧cs.length=n∧a.off+n≤c.toList.length∧cs=(c.toList.drop a.off).take n:=by
 unfold World.cells? at h
 rw [if_pos (Nat.zero_le _)] at h
 have hl:=mapM_some_length h
 rw [List.length_range] at hl
 have hg:∀ i,i<n→W.cell? (a.add i)=cs[i]?:=fun i hi=>mapM_some_get h i i (by simp [hi])
 have h0:=hg 0 hn
 have ha:a.add 0=a:=by simp [Addr.add]
 rw [ha,List.getElem?_eq_getElem (by omega)] at h0
 unfold World.cell? at h0
 split at h0
 ·rename_i c t z hb
  have hs:a.spot=none:=by
   cases hs:a.spot with
   | none=>rfl
   | some _=>simp [hs] at h0
  have hcell:∀ i,i<n→c[a.off+i]?=cs[i]?:=by
   intro i hi
   have:=hg i hi
   unfold World.cell? at this
   have hblk:(a.add i).block=a.block:=by unfold Addr.add;split <;> rfl
   have hsp:(a.add i).spot=none:=by unfold Addr.add;split <;> first | exact hs | rfl
   have hoff:(a.add i).off=a.off+i:=by unfold Addr.add;split <;> simp_all
   rw [hblk,hb] at this
   simp only [hsp,hoff] at this
   simpa using this
  have hlen:a.off+n≤c.toList.length:=by
   have:=hcell (n - 1) (by omega)
   rw [List.getElem?_eq_getElem (by omega)] at this
   have:=(Array.getElem?_eq_some_iff.1 this).1
   simp
   omega
  refine⟨c,t,z,hb,hs,hl,hlen,?_⟩
  refine List.ext_getElem? fun i=>?_
  by_cases hi:i<n
  ·rw [← hcell i hi,List.getElem?_take_of_lt hi,List.getElem?_drop]
   simp
  ·rw [List.getElem?_eq_none (by omega),List.getElem?_eq_none (by simp;omega)]
 ·cases h0
def AllCells (fz:Fzn) (W:World):Prop:=∀ b c t z,W.heap[b]?=some (.cells c t z)→fz b=some c.toList
def Rd (P:Program) (fz:Fzn) (m:Nat) (t:TypeId) (cs:List Value):Prop:=∃ xs,VPL fz xs cs∧(∀ u∈cs,plainV u=true)∧TyT P m t xs
theorem flds_of {fz:Fzn} {m:Nat} {cs:List Value}:∀ (l:List (TypeId × Nat)) (o:Nat),tiles P l o=some cs.length→(∀ f∈l,Rd P fz m f.1 ((cs.drop f.2).take (P.cellsOf f.1))) →
  ∃ xs,VPL fz xs (cs.drop o)∧(∀ u∈cs.drop o,plainV u=true)∧Flds P (TyT P m) l xs
 | [],o,ht,_=>by
  simp only [tiles,Option.some.injEq] at ht
  subst ht
  exact⟨[],by simp [VPL],by simp,rfl⟩
 | f::r,o,ht,hr=>by
  simp only [tiles] at ht
  split at ht
  ·rename_i ho
   have hle:=tiles_le ht
   obtain⟨ys,h1,h2,h3⟩:=hr f (by simp)
   obtain⟨zs,k1,k2,k3⟩:=flds_of r (o+P.cellsOf f.1) ht fun g hg=>hr g (by simp [hg])
   rw [ho] at h1 h2
   have e:cs.drop o=(cs.drop o).take (P.cellsOf f.1)++cs.drop (o+P.cellsOf f.1):=by
    rw [← List.drop_drop,List.take_append_drop]
   refine⟨ys++zs,?_,?_,ys,zs,rfl,?_,h3,k3⟩
   ·rw [e];exact VPL_append h1 k1
   ·rw [e];intro u hu;rcases List.mem_append.1 hu with hu | hu
    ·exact h2 u hu
    ·exact k2 u hu
   ·rw [← VPL_length h1,List.length_take,List.length_drop];omega
  ·cases ht
theorem parts_trod {t:TypeId} {l:List (TypeId × Nat)} (hp:partsOf P t=some l) {n:Nat} {cs:List Value} {x:DataW H × List MemPlace} (h:DataW.trod enc P W 0 sp held n t cs=some x) :
  ∃ (xs:List (DataW H × List MemPlace)) (k:Nat),n=k+1∧x=(.agg (xs.map (·.1)),xs.flatMap (·.2))∧cs.length=P.cellsOf t∧xs.length=l.length ∧
   ∀ (i:Nat) (f:TypeId × Nat),l[i]?=some f→DataW.trod enc P W 0 sp held k f.1 ((cs.drop f.2).take (P.cellsOf f.1))=xs[i]?:=by
 unfold partsOf at hp
 split at hp
 ·rename_i fs hu
  injection hp with hp
  subst hp
  obtain⟨xs,k,h1,h2,h3,h4,h5⟩:=DataW.trod_struct hu h
  refine⟨xs,k,h1,h2,h3,by simpa using h4,fun i f hf=>?_⟩
  rw [List.getElem?_map,Option.map_eq_some_iff] at hf
  obtain⟨g,hg,rfl⟩:=hf
  exact h5 i g (by simpa using hg)
 ·rename_i k' e hu
  injection hp with hp
  subst hp
  obtain⟨xs,k,h1,h2,h3,h4,h5⟩:=DataW.trod_array hu h
  refine⟨xs,k,h1,h2,h3,by simpa using h4,fun i f hf=>?_⟩
  rw [List.getElem?_map,Option.map_eq_some_iff] at hf
  obtain⟨j,hj,rfl⟩:=hf
  have hi:=(List.getElem?_eq_some_iff.1 hj)
  obtain⟨hi,hj⟩:=hi
  simp at hi hj
  subst hj
  exact h5 i hi
 ·cases hp
theorem flat_singles {l:List (List PV)} (h:∀ cs∈l,cs.length=1):l.flatten.length=l.length∧∀ y∈l.flatten,[y]∈l:=by
 induction l with
 | nil=>simp
 | cons x r ih=>
  have hx:=h x (by simp)
  obtain⟨y,rfl⟩:∃ y,x=[y]:=by
   match x,hx with
   | [y],_=>exact⟨y,rfl⟩
  obtain⟨h1,h2⟩:=ih fun c hc=>h c (by simp [hc])
  refine⟨by simp [h1],fun z hz=>?_⟩
  simp at hz
  rcases hz with rfl | hz
  ·simp
  ·have:=h2 z (by simpa using hz)
   simp [this]
theorem typed_of_trod {fz:Fzn} (hfz:AllCells fz W):∀ (m:Nat) (t:TypeId) (n:Nat) (cs:List Value) (x:DataW H × List MemPlace),supp P m t=true→DataW.trod enc P W 0 sp held n t cs=some x→Rd P fz m t cs
 | 0,_,_,_,_,hs,_=>by simp [supp] at hs
 | m+1,t,n,cs,x,hs,h=>by
  have ih:=typed_of_trod hfz m
  simp only [supp] at hs
  cases hp:partsOf P t with
  | some l=>
   simp only [hp,Bool.and_eq_true,decide_eq_true_eq,List.all_eq_true] at hs
   obtain⟨xs,k,h1,h2,h3,h4,h5⟩:=parts_trod hp h
   obtain⟨ys,g1,g2,g3⟩:=flds_of (fz:=fz) (m:=m) (cs:=cs) l 0 (by rw [h3];exact hs.1) fun f hf=>by
    obtain⟨i,hi,rfl⟩:=List.getElem_of_mem hf
    have:=h5 i _ (List.getElem?_eq_getElem hi)
    rw [List.getElem?_eq_getElem (by omega)] at this
    exact ih _ _ _ _ (hs.2 _ hf) this
   exact⟨ys,by simpa using g1,by simpa using g2,by simp only [TyT,hp];exact g3⟩
  | none=>
   simp only [hp] at hs
   cases hu:P.underlying t with
   | none=>simp [hu] at hs
   | some d=>
    simp only [hu] at hs
    cases d with
    | bool=>
     obtain⟨b,rfl,_⟩:=DataW.trod_bool hu h
     exact⟨[.bool b],by simp [VPL,VP],by simp [plainV],by simp [TyT,hp,hu]⟩
    | int k=>
     obtain⟨b,rfl,_,hw⟩:=DataW.trod_int hu h
     exact⟨[.int k b],by simp [VPL,VP],by simp [plainV],by simp [TyT,hp,hu,hw]⟩
    | string=>
     obtain⟨⟨⟨s⟩⟩,rfl,_,hw⟩:=DataW.trod_string hu h
     exact⟨[.str s],by simp [VPL,VP],by simp [plainV],by simp only [TyT,hp,hu];exact⟨s,rfl,hw⟩⟩
    | slice e=>
     simp only [Bool.and_eq_true,decide_eq_true_eq] at hs
     obtain⟨hs0,hse⟩:=hs
     have fin:∀ (v:Value) (len:Nat) (yss:List (List PV)),len≤maxLen→yss.length=len→(∀ ys∈yss,ys.length=P.cellsOf e∧TyT P m e ys)→plainV v=true →
       (yss=[]→∃ a c,v=.slice a 0 c)→(yss ≠ []→∃ b o c arr us,v=.slice (some ⟨b,o,none⟩) len c∧len≤c∧fz b=some arr∧VPLL fz (P.cellsOf e) yss us∧Seg arr o us)→Rd P fz (m+1) t [v]:=by
      intro v len yss hml hlen hty hpl hnil hcons
      by_cases h1:P.cellsOf e=1
      ·have hfl:=flat_singles (l:=yss) fun c hc=>by rw [(hty c hc).1,h1]
       refine⟨[.lst yss.flatten],?_,by simpa using hpl,?_⟩
       ·simp only [VPL]
        refine⟨v,[],rfl,?_,rfl⟩
        simp only [VP]
        by_cases hy:yss=[]
        ·exact .inl ⟨by simp [hy],hnil hy⟩
        ·obtain⟨b,o,c,arr,us,k1,k2,k3,k4,k5⟩:=hcons hy
         exact .inr ⟨b,o,c,arr,us,by rw [hfl.1,hlen];exact k1,by rw [hfl.1,hlen];exact k2,k3,(VPLL_flat.1 k4).1,k5⟩
       ·simp only [TyT,hp,hu,h1]
        exact⟨_,rfl,by rw [hfl.1,hlen];exact hml,fun y hy=>(hty _ (hfl.2 y hy)).2⟩
      ·refine⟨[.lsts (P.cellsOf e) yss],?_,by simpa using hpl,?_⟩
       ·simp only [VPL]
        refine⟨v,[],rfl,?_,rfl⟩
        simp only [VP]
        by_cases hy:yss=[]
        ·exact .inl ⟨hy,hnil hy⟩
        ·obtain⟨b,o,c,arr,us,k1,k2,k3,k4,k5⟩:=hcons hy
         exact .inr ⟨b,o,c,arr,us,by rw [hlen];exact k1,by rw [hlen];exact k2,k3,k4,k5⟩
       ·have hb:Nat.beq (P.cellsOf e) 1=false:=beq_ne h1
        simp only [TyT,hp,hu,hb]
        exact⟨_,rfl,by rw [hlen];exact hml,fun y hy=>(hty _ hy).2⟩
     rcases DataW.trod_slice hu h with ⟨rfl,_⟩ | ⟨a,len,cap,elems,rest,n',rfl,rfl,_,_,hlc,hcm,hel,hE,_,_⟩
     ·exact fin _ 0 [] (by simp [maxLen]) rfl (by simp) rfl (fun _=>⟨none,0,rfl⟩) (by simp)
     ·have hcs:∀ i,i<len→∃ cs',W.cells? 0 (a.add (i * P.cellsOf e)) (P.cellsOf e)=some cs'∧Rd P fz m e cs':=by
       intro i hi
       have:=hE i hi
       rw [List.getElem?_eq_getElem (by omega),Option.bind_eq_some_iff] at this
       obtain⟨cs',h1,h2⟩:=this
       exact⟨cs',h1,ih _ _ _ _ hse h2⟩
      by_cases hl0:len=0
      ·subst hl0
       exact fin _ 0 [] (by simp [maxLen]) rfl (by simp) rfl (fun _=>⟨_,_,rfl⟩) (by simp)
      ·obtain⟨cs0,c1,_⟩:=hcs 0 (by omega)
       have ha:a.add (0 * P.cellsOf e)=a:=by simp [Addr.add]
       rw [ha] at c1
       obtain⟨c,tt,z,hb,hsp,_,_,_⟩:=cells_take hs0 c1
       have key:∀ k,k≤len→∃ yss us,yss.length=k∧VPLL fz (P.cellsOf e) yss us∧(∀ u∈us,plainV u=true)∧(∀ ys∈yss,ys.length=P.cellsOf e∧TyT P m e ys)∧(k ≠ 0→a.off+k * P.cellsOf e≤c.toList.length)∧us=(c.toList.drop a.off).take (k * P.cellsOf e):=by
        intro k
        induction k with
        | zero=>intro _;exact⟨[],[],rfl,by simp [VPLL],by simp,by simp,by simp,by simp⟩
        | succ k ihk=>
         intro hk
         obtain⟨yss,us,k1,k2,k3,k4,k5,k6⟩:=ihk (by omega)
         obtain⟨cs',d1,ys,d2,d3,d4⟩:=hcs k (by omega)
         obtain⟨c',tt',z',e1,e2,e3,e4,e5⟩:=cells_take hs0 d1
         have hblk:(a.add (k * P.cellsOf e)).block=a.block:=by unfold Addr.add;split <;> rfl
         have hoff:(a.add (k * P.cellsOf e)).off=a.off+k * P.cellsOf e:=by unfold Addr.add;split <;> simp_all
         rw [hblk,hb] at e1
         simp only [Option.some.injEq,Obj.cells.injEq] at e1
         obtain⟨rfl,_,_⟩:=e1
         rw [hoff] at e4 e5
         have hys:ys.length=P.cellsOf e:=by rw [← VPL_length d2,e3]
         have hf:=VPLL_flat.1 k2
         refine⟨yss++[ys],us++cs',by simp [k1],VPLL_flat.2 ⟨?_,?_⟩,?_,?_,fun _=>by rw [Nat.succ_mul];omega,?_⟩
         ·simpa using VPL_append hf.1 d2
         ·intro q hq;rcases List.mem_append.1 hq with hq | hq
          ·exact hf.2 q hq
          ·simp at hq;subst hq;exact hys
         ·intro u hu;rcases List.mem_append.1 hu with hu | hu
          ·exact k3 u hu
          ·exact d3 u hu
         ·intro q hq;rcases List.mem_append.1 hq with hq | hq
          ·exact k4 q hq
          ·simp at hq;subst hq;exact⟨hys,d4⟩
         ·rw [k6,e5,Nat.succ_mul,List.take_add,List.drop_drop]
       obtain⟨yss,us,k1,k2,k3,k4,k5,k6⟩:=key len (Nat.le_refl _)
       have k5:=k5 hl0
       have hne:yss ≠ []:=by intro e;subst e;simp at k1;omega
       refine fin _ len yss (by omega) k1 k4 rfl (fun e=>absurd e hne) fun _=>⟨a.block,a.off,cap,c.toList,us,?_,hlc,hfz _ _ _ _ hb,k2,?_⟩
       ·obtain⟨ab,ao,asp⟩:=a;simp only [] at hsp;subst hsp;rfl
       ·refine⟨c.toList.take a.off,c.toList.drop (a.off+len * P.cellsOf e),?_,?_,k3⟩
        ·rw [k6,List.append_assoc,← List.drop_drop,List.take_append_drop,List.take_append_drop]
        ·rw [List.length_take];omega
    | _=>simp [basic] at hs
mutual
def flatD:DataW H→Option (List PV)
 | .lit (.bool b)=>some [.bool b]
 | .lit (.int k n)=>some [.int k n]
 | .lit (.string s)=>some [.str s]
 | .agg ps=>flatDL ps
 | _=>none
def flatDL:List (DataW H)→Option (List PV)
 | []=>some []
 | d::r=>match flatD d,flatDL r with
  | some xs,some ys=>some (xs++ys)
  | _,_=>none
end
theorem fldsD_of {fz:Fzn} {cs:List Value} {Q:DataW H→List Value→Prop} (hQ:∀ d us xs,Q d us→flatD d=some xs→VPL fz xs us∧∀ u∈us,plainV u=true):∀ (l:List (TypeId × Nat)) (ds:List (DataW H)) (o:Nat) (xs:List PV),tiles P l o=some cs.length→ds.length=l.length →
  (∀ (i:Nat) f d,l[i]?=some f→ds[i]?=some d→Q d ((cs.drop f.2).take (P.cellsOf f.1)))→flatDL ds=some xs→VPL fz xs (cs.drop o)∧∀ u∈cs.drop o,plainV u=true
 | [],ds,o,xs,ht,hl,_,hd=>by
  simp only [tiles,Option.some.injEq] at ht
  subst ht
  obtain rfl:=List.eq_nil_of_length_eq_zero hl
  simp only [flatDL,Option.some.injEq] at hd
  subst hd
  simp [VPL]
 | f::r,[],o,xs,ht,hl,_,hd=>by simp at hl
 | f::r,d::ds,o,xs,ht,hl,hr,hd=>by
  simp only [tiles] at ht
  split at ht
  ·rename_i ho
   simp only [flatDL] at hd
   split at hd
   ·rename_i ys zs e1 e2
    injection hd with hd
    subst hd
    have h1:=hQ d _ ys (hr 0 f d rfl rfl) e1
    have h2:=fldsD_of hQ r ds (o+P.cellsOf f.1) zs ht (by simpa using hl) (fun i g e hg he=>hr (i+1) g e hg he) e2
    rw [ho] at h1
    have e:cs.drop o=(cs.drop o).take (P.cellsOf f.1)++cs.drop (o+P.cellsOf f.1):=by
     rw [← List.drop_drop,List.take_append_drop]
    rw [e]
    refine⟨VPL_append h1.1 h2.1,fun u hu=>?_⟩
    rcases List.mem_append.1 hu with hu | hu
    ·exact h1.2 u hu
    ·exact h2.2 u hu
   ·cases hd
  ·cases ht
theorem laid_of_trod {fz:Fzn}:∀ (m:Nat) (t:TypeId) (n:Nat) (cs:List Value) (x:DataW H × List MemPlace) (xs:List PV),supp P m t=true→DataW.trod enc P W 0 sp held n t cs=some x→flatD x.1=some xs→VPL fz xs cs∧∀ u∈cs,plainV u=true
 | 0,_,_,_,_,_,hs,_,_=>by simp [supp] at hs
 | m+1,t,n,cs,x,xs,hs,h,hd=>by
  have ih:=laid_of_trod (fz:=fz) m
  simp only [supp] at hs
  cases hp:partsOf P t with
  | some l=>
   simp only [hp,Bool.and_eq_true,decide_eq_true_eq,List.all_eq_true] at hs
   obtain⟨ys,k,h1,h2,h3,h4,h5⟩:=parts_trod hp h
   rw [h2] at hd
   simp only [flatD] at hd
   have:=fldsD_of (fz:=fz) (P:=P) (cs:=cs) (Q:=fun d us=>∀ xs,flatD d=some xs→VPL fz xs us∧∀ u∈us,plainV u=true) (fun d us xs hq hx=>hq xs hx) l (ys.map (·.1)) 0 xs (by rw [h3];exact hs.1) (by simpa using h4) (fun i f d hf hd'=>by
    rw [List.getElem?_map,Option.map_eq_some_iff] at hd'
    obtain⟨y,hy,rfl⟩:=hd'
    have e:=h5 i f hf
    rw [hy] at e
    intro xs hx
    exact ih _ _ _ _ xs (hs.2 _ (List.mem_of_getElem? hf)) e hx) hd
   simpa using this
  | none=>
   simp only [hp] at hs
   cases hu:P.underlying t with
   | none=>simp [hu] at hs
   | some d=>
    simp only [hu] at hs
    cases d with
    | bool=>
     obtain⟨b,rfl,rfl⟩:=DataW.trod_bool hu h
     simp only [flatD,Option.some.injEq] at hd
     subst hd
     exact⟨by simp [VPL,VP],by simp [plainV]⟩
    | int k=>
     obtain⟨b,rfl,rfl,hw⟩:=DataW.trod_int hu h
     simp only [flatD,Option.some.injEq] at hd
     subst hd
     exact⟨by simp [VPL,VP],by simp [plainV]⟩
    | string=>
     obtain⟨⟨⟨s⟩⟩,rfl,rfl,hw⟩:=DataW.trod_string hu h
     simp only [flatD,Option.some.injEq] at hd
     subst hd
     exact⟨by simp [VPL,VP],by simp [plainV]⟩
    | slice e=>
     rcases DataW.trod_slice hu h with ⟨rfl,rfl⟩ | ⟨a,len,cap,elems,rest,n',rfl,rfl,rfl,_⟩
     ·simp [flatD] at hd
     ·simp [flatD] at hd
    | _=>simp [basic] at hs
end
end Go.Proofs.YtmepdfingcmkmaaGreatDoor.Y
namespace Go.Proofs.YtmepdfingcmkmaaGreatDoor.Y
open Go
theorem mapM_mono {α β:Type} {f g:α→Option β}:∀ {l:List α} {r:List β},(∀ x∈l,∀ y,f x=some y→g x=some y)→l.mapM f=some r→l.mapM g=some r
 | [],r,_,h=>by simpa using h
 | x::l,r,hfg,h=>by
  simp only [List.mapM_cons,Option.bind_eq_bind,Option.bind_eq_some_iff,Option.pure_def,Option.some.injEq] at h ⊢
  obtain⟨y,h1,ys,h2,h3⟩:=h
  exact⟨y,hfg x (by simp) y h1,ys,mapM_mono (fun z hz=>hfg z (by simp [hz])) h2,h3⟩
def Kept (W W':World):Prop:=∀ (b:Nat) (o:Obj),W.heap[b]?=some o→W'.heap[b]?=some o
section
variable {H:Type} {enc:TypeId × Value→H} {P:Program} {W W':World} {sp':Nat→Bool} {held:Bool}
theorem Kept.cell (hk:Kept W W') {a:Addr} {v:Value} (h:W.cell? a=some v):W'.cell? a=some v:=by
 unfold World.cell? at h ⊢
 split at h
 ·rename_i c t z hb
  rw [hk _ _ hb]
  exact h
 ·cases h
theorem Kept.cells (hk:Kept W W') {a:Addr} {n:Nat} {cs:List Value} (h:W.cells? 0 a n=some cs):W'.cells? 0 a n=some cs:=by
 unfold World.cells? at h ⊢
 rw [if_pos (Nat.zero_le _)] at h ⊢
 exact mapM_mono (fun _ _ _ hx=>hk.cell hx) h
theorem trod_kept (hk:Kept W W') (hsp:∀ b,b<W.heap.size→sp' b=true):∀ (m:Nat) (t:TypeId) (n:Nat) (cs:List Value) (x:DataW H × List MemPlace),supp P m t=true→DataW.trod enc P W 0 (fun _=>true) held n t cs=some x→DataW.trod enc P W' 0 sp' held n t cs=some x
 | 0,_,_,_,_,hs,_=>by simp [supp] at hs
 | m+1,t,0,cs,x,hs,h=>by simp [DataW.trod] at h
 | m+1,t,n+1,cs,x,hs,h=>by
  have ih:=trod_kept hk hsp m
  simp only [supp] at hs
  cases hu:P.underlying t with
  | none=>
   have hp:partsOf P t=none:=by simp [partsOf,hu]
   simp [hp,hu] at hs
  | some d=>
   cases d with
   | struct fs=>
    have hp:partsOf P t=some (fs.toList.map fun f=>(f.type,f.offset)):=by simp [partsOf,hu]
    simp only [hp,Bool.and_eq_true,List.all_eq_true] at hs
    unfold DataW.trod at h ⊢
    rw [hu] at h ⊢
    simp only [] at h ⊢
    split at h
    ·rename_i hl
     rw [if_pos hl]
     rw [Option.map_eq_some_iff] at h ⊢
     obtain⟨xs,h1,h2⟩:=h
     exact⟨xs,mapM_mono (fun f hf y hy=>ih _ _ _ _ (hs.2 (f.type,f.offset) (List.mem_map_of_mem hf)) hy) h1,h2⟩
    ·cases h
   | array k e=>
    have hp:partsOf P t=some ((List.range k).map fun i=>(e,i * P.cellsOf e)):=by simp [partsOf,hu]
    simp only [hp,Bool.and_eq_true,List.all_eq_true] at hs
    unfold DataW.trod at h ⊢
    rw [hu] at h ⊢
    simp only [] at h ⊢
    split at h
    ·rename_i hl
     rw [if_pos hl]
     rw [Option.map_eq_some_iff] at h ⊢
     obtain⟨xs,h1,h2⟩:=h
     exact⟨xs,mapM_mono (fun i hi y hy=>ih _ _ _ _ (hs.2 (e,i * P.cellsOf e) (List.mem_map_of_mem hi)) hy) h1,h2⟩
    ·cases h
   | bool=>
    obtain⟨b,rfl,rfl⟩:=DataW.trod_bool hu h
    unfold DataW.trod;rw [hu]
   | int k=>
    obtain⟨b,rfl,rfl,hw⟩:=DataW.trod_int hu h
    unfold DataW.trod;rw [hu];simp [hw]
   | string=>
    obtain⟨s,rfl,rfl,hw⟩:=DataW.trod_string hu h
    unfold DataW.trod;rw [hu];simp [hw]
   | slice e=>
    have hp:partsOf P t=none:=by simp [partsOf,hu]
    simp only [hp,hu,Bool.and_eq_true,decide_eq_true_eq] at hs
    rcases DataW.trod_slice hu h with ⟨rfl,rfl⟩ | ⟨a,len,cap,_,_,_,_,rfl,_⟩
    ·unfold DataW.trod;rw [hu];rfl
    unfold DataW.trod at h ⊢
    rw [hu] at h ⊢
    simp only [if_true] at h ⊢
    split at h
    rotate_left
    ·cases h
    rename_i hc
    rw [if_pos hc]
    rw [Option.bind_eq_some_iff] at h ⊢
    obtain⟨elems,h1,h2⟩:=h
    rw [Option.map_eq_some_iff] at h2
    obtain⟨rest,h2,h3⟩:=h2
    have el:∀ i y,(W.cells? 0 (a.add (i * P.cellsOf e)) (P.cellsOf e)).bind (DataW.trod enc P W 0 (fun _=>true) held n e)=some y→(W'.cells? 0 (a.add (i * P.cellsOf e)) (P.cellsOf e)).bind (DataW.trod enc P W' 0 sp' held n e)=some y:=by
     intro i y hy
     rw [Option.bind_eq_some_iff] at hy ⊢
     obtain⟨cs',g1,g2⟩:=hy
     exact⟨cs',hk.cells g1,ih _ _ _ _ hs.2 g2⟩
    refine⟨elems,mapM_mono (fun i _ y hy=>el i y hy) h1,?_⟩
    rw [Option.map_eq_some_iff]
    refine⟨rest,?_,h3⟩
    by_cases hd:cap - len=0
    ·rw [hd] at h2 ⊢
     simp at h2
     subst h2
     cases sp' a.block <;> simp
    ·have hb:a.block<W.heap.size:=by
      have hl:=mapM_some_length h2
      rw [List.length_range] at hl
      have:=mapM_some_get h2 0 0 (by rw [List.getElem?_eq_getElem (by simp;omega)];simp)
      rw [List.getElem?_eq_getElem (by omega),Option.bind_eq_some_iff] at this
      obtain⟨cs',g1,_⟩:=this
      obtain⟨c,t',z,g3,_⟩:=cells_take hs.1 g1
      have hblk:(a.add ((len+0) * P.cellsOf e)).block=a.block:=by unfold Addr.add;split <;> rfl
      rw [hblk] at g3
      exact(Array.getElem?_eq_some_iff.1 g3).1
     rw [if_pos (hsp _ hb)]
     exact mapM_mono (fun i _ y hy=>el (len+i) y hy) h2
   | _=>
    have hp:partsOf P t=none:=by simp [partsOf,hu]
    simp [hp,hu,basic] at hs
theorem trodAll_kept (hk:Kept W W') (hsp:∀ b,b<W.heap.size→sp' b=true) (m:Nat):∀ {ts:List TypeId} {vs:List Value} {ds:List (DataW H)} {ps:List MemPlace},ts.all (supp P m)=true→DataW.TrodAll enc P W 0 (fun _=>true) held ts vs ds ps→DataW.TrodAll enc P W' 0 sp' held ts vs ds ps
 | [],[],[],ps,_,h=>h
 | t::ts,v::vs,d::ds,ps,hs,h=>by
  simp only [List.all_cons,Bool.and_eq_true] at hs
  obtain⟨p,q,⟨fuel,h1⟩,h2,h3⟩:=h
  exact⟨p,q,⟨fuel,trod_kept hk hsp m _ _ _ _ hs.1 h1⟩,trodAll_kept hk hsp m hs.2 h2,h3⟩
 | [],[],_::_,ps,_,h=>by simp [DataW.TrodAll] at h
 | [],_::_,_,ps,_,h=>by simp [DataW.TrodAll] at h
 | _::_,[],_,ps,_,h=>by simp [DataW.TrodAll] at h
 | _::_,_::_,[],ps,_,h=>by simp [DataW.TrodAll] at h
def ArgT (P:Program) (m:Nat) (t:TypeId) (x:PV):Prop:=match partsOf P t with
 | some _=>∃ xs,x=.agg xs∧TyT P m t xs
 | none=>TyT P m t [x]
def ArgsT (P:Program) (m:Nat):List TypeId→List PV→Prop
 | [],xs=>xs=[]
 | t::ts,xs=>∃ x r,xs=x::r∧ArgT P m t x∧ArgsT P m ts r
def fzOf (W:World):Fzn:=fun b=>match W.heap[b]? with
 | some (.cells c _ _)=>some c.toList
 | _=>none
theorem fzOf_all (W:World):AllCells (fzOf W) W:=fun b c t z h=>by simp [fzOf,h]
theorem fzOf_some {b:Nat} {arr:List Value} (h:fzOf W b=some arr):∃ c t z,W.heap[b]?=some (.cells c t z)∧arr=c.toList:=by
 unfold fzOf at h
 split at h
 ·rename_i c t z hb
  injection h with h
  exact⟨c,t,z,hb,h.symm⟩
 ·cases h
theorem arg_of {m:Nat} {base:Nat} {t:TypeId} {v:Value} {d:DataW H} {ps:List MemPlace} (hs:supp P m t=true) (hval:Value.okWide P W .any base t v) (h:DataW.Trod enc P W 0 (fun _=>true) true t v d ps):∃ x,VP (fzOf W) x v∧ArgT P m t x:=by
 obtain⟨fuel,h⟩:=h
 obtain⟨xs,h1,h2,h3⟩:=typed_of_trod (fzOf_all W) m t fuel _ _ hs h
 unfold Value.okWide at hval
 cases hp:partsOf P t with
 | some l=>
  have:∃ cs,v=.agg cs:=by
   unfold partsOf at hp
   split at hp
   ·rename_i fs hu;simp only [hu] at hval;obtain⟨cs,h,_⟩:=hval;exact⟨cs,h⟩
   ·rename_i k e hu;simp only [hu] at hval;obtain⟨cs,h,_⟩:=hval;exact⟨cs,h⟩
   ·cases hp
  obtain⟨cs,rfl⟩:=this
  exact⟨.agg xs,by simp only [VP];exact⟨cs,rfl,h1⟩,by simp only [ArgT,hp];exact⟨xs,rfl,h3⟩⟩
 | none=>
  have hv:v.cells=#[v]:=by
   cases m with
   | zero=>simp [supp] at hs
   | succ m=>
    simp only [supp,hp] at hs
    cases hu:P.underlying t with
    | none=>simp [hu] at hs
    | some d=>
     simp only [hu] at hs hval
     cases d with
     | struct fs=>simp [partsOf,hu] at hp
     | array k e=>simp [partsOf,hu] at hp
     | bool=>cases v <;> simp_all [Cell.okWide,Cell.ok,Value.cells]
     | int k=>cases v <;> simp_all [Cell.okWide,Cell.ok,Value.cells]
     | string=>cases v <;> simp_all [Cell.okWide,Cell.ok,Value.cells]
     | slice e=>cases v <;> simp_all [Cell.okWide,Cell.ok,Value.cells]
     | _=>simp [basic] at hs
  rw [hv] at h1
  obtain⟨x,rfl,h4⟩:∃ x,xs=[x]∧VP (fzOf W) x v:=by
   match xs,h1 with
   | [],h1=>simp [VPL] at h1
   | x::r,h1=>
    simp only [VPL] at h1
    obtain⟨u,us,e,g1,g2⟩:=h1
    simp only [List.cons.injEq] at e
    obtain⟨rfl,rfl⟩:=e
    match r,g2 with
    | [],_=>exact⟨x,rfl,g1⟩
    | y::r,g2=>simp [VPL] at g2
  exact⟨x,h4,by simp only [ArgT,hp];exact h3⟩
theorem args_of {m base:Nat}:∀ {ts:List TypeId} {vs:List Value} {ds:List (DataW H)} {ps:List MemPlace},ts.all (supp P m)=true→(∀ (j:Nat) t v,ts[j]?=some t→vs[j]?=some v→Value.okWide P W .any base t v)→DataW.TrodAll enc P W 0 (fun _=>true) true ts vs ds ps →
  ∃ xs,VPL (fzOf W) xs vs∧ArgsT P m ts xs∧ds.length=ts.length
 | [],[],[],ps,_,_,_=>⟨[],by simp [VPL],rfl,rfl⟩
 | t::ts,v::vs,d::ds,ps,hs,hv,h=>by
  simp only [List.all_cons,Bool.and_eq_true] at hs
  obtain⟨p,q,h1,h2,h3⟩:=h
  obtain⟨x,g1,g2⟩:=arg_of hs.1 (hv 0 t v rfl rfl) h1
  obtain⟨xs,k1,k2,k3⟩:=args_of hs.2 (fun j t v ht hv'=>hv (j+1) t v ht hv') h2
  exact⟨x::xs,by simp only [VPL];exact⟨v,vs,rfl,g1,k1⟩,⟨x,xs,rfl,g2,k2⟩,by simp [k3]⟩
 | [],[],_::_,ps,_,_,h=>by simp [DataW.TrodAll] at h
 | [],_::_,_,ps,_,_,h=>by simp [DataW.TrodAll] at h
 | _::_,[],_,ps,_,_,h=>by simp [DataW.TrodAll] at h
 | _::_,_::_,[],ps,_,_,h=>by simp [DataW.TrodAll] at h
end
def gtOK (P:Program) (m:Nat):List (Nat × List PV)→List (String × DataW Unit)→Prop
 | [],_=>True
 | (g,cs)::r,(n,d)::r'=>P.globalNamed n=some g∧(∃ t,(P.globals[g]?).map (·.type)=some t∧supp P m t=true)∧flatD d=some cs∧gtOK P m r r'
 | _::_,[]=>False
theorem glob_of_laid {P:Program} {m:Nat} {W:World}:∀ {gt:List (Nat × List PV)} {laid:List (String × DataW Unit)} {ps:List MemPlace},gtOK P m gt laid→DataW.LaidVars P W laid ps→∀ g cs,gget gt g=some cs→GlobV (fzOf W) g cs
 | [],_,_,_,_,g,cs,h=>by simp [gget] at h
 | (g',cs')::r,[],_,hg,_,g,cs,h=>by simp [gtOK] at hg
 | (g',cs')::r,(n,d)::r',ps,hg,hl,g,cs,h=>by
  obtain⟨h1,⟨t,h2,h3⟩,h4,h5⟩:=hg
  obtain⟨g0,t0,cs0,fuel,p,q,k1,k2,k3,k4,k5,k6⟩:=hl
  rw [h1] at k1
  injection k1 with k1
  subst k1
  rw [h2] at k2
  injection k2 with k2
  subst k2
  simp only [gget] at h
  split at h
  ·rename_i he
   have he:=Nat.eq_of_beq_eq_true he
   subst he
   injection h with h
   subst h
   obtain⟨g1,g2⟩:=laid_of_trod (fz:=fzOf W) m t fuel _ _ _ h3 k4 h4
   have hb:∃ ty z,W.heap[g']?=some (.cells cs0 ty z):=by
    unfold World.var? at k3
    rw [h1] at k3
    simp only [Option.bind_some] at k3
    split at k3
    ·rename_i c ty z hb
     injection k3 with k3
     subst k3
     exact⟨ty,z,hb⟩
    ·cases k3
   obtain⟨ty,z,hb⟩:=hb
   exact⟨by simp only [VP];exact⟨g',0,cs0.toList,cs0.toList,rfl,fzOf_all W _ _ _ _ hb,g1,[],[],by simp,rfl,g2⟩,cs0.toList,fzOf_all W _ _ _ _ hb,VPL_length g1⟩
  ·exact glob_of_laid h5 k5 g cs h
section
variable {cx:Cx}
theorem calls_of_pure {H:Type} {enc:TypeId × Value→H} {W:World} {f:FuncId} {fn:Func} {c:Code} {m base:Nat} {args:Array Value} {ds:List (DataW H)} {ps:List MemPlace}
  (hf : cx.P.funcs[f]? = some fn) (hname : (fn.name == "runtime.NumGoroutine") = false) (hb : fn.body = some c) (hs : fn.params.toList.all (supp cx.P m) = true)
  (hpure:∀ xs,ArgsT cx.P m fn.params.toList xs→Pure cx f xs (·=.ret [.bool true]))
  (hval:∀ (j:Nat) t v,fn.params[j]?=some t→args[j]?=some v→Value.okWide cx.P W .any base t v)
  (hA:DataW.TrodAll enc cx.P W 0 (fun _=>true) true fn.params.toList args.toList ds ps)
  (hglob:∀ g cs,gget cx.gt g=some cs→GlobV (fzOf W) g cs) :
  Calls cx.P f args W fun e W'=>e=.returned (.bool true)∧W'.os=W.os∧W'.output=W.output∧∀ k,k<W.heap.size→W'.heap[k]?=W.heap[k]?:=by
 obtain⟨xs,h1,h2,_⟩:=args_of hs (fun j t v ht hv=>hval j t v (by simpa using ht) (by simpa using hv)) hA
 have hR:R cx ⟨fun _=>none,fzOf W⟩ ⟨0,[]⟩ W:=by
  refine⟨hglob,fun _ _=>rfl,fun b arr hb=>?_,fun n o hn=>by simp [lget] at hn,fun n o q hn=>by simp [lget] at hn,fun n o m p q q' hn=>by simp [lget] at hn⟩
  obtain⟨c,t,z,g1,rfl⟩:=fzOf_some hb
  exact⟨t,z,g1⟩
 have key:∀ e w',Post cx ⟨fun _=>none,fzOf W⟩ ⟨0,[]⟩ W (EndP (·=.ret [.bool true])) e w'→e=.returned (.bool true)∧w'.os=W.os∧w'.output=W.output∧∀ k,k<W.heap.size→w'.heap[k]?=W.heap[k]?:=by
  intro e w' hP
  obtain⟨r,Γ',hq,_,hE,_,hT,_⟩:=pure_post hR hP
  subst hq
  obtain⟨v',rfl,hv⟩:=hE
  simp only [VR,VP] at hv
  subst hv
  exact⟨rfl,hT.os,hT.output,fun k hk=>hT.kept k hk own_nil⟩
 have hrun:=run_enter hf hname hb args W
 rcases hpure xs h2 ⟨fun _=>none,fzOf W⟩ W args.toList hR (VRL_p.2 h1) with ⟨_,h4⟩ | ⟨v',w',h4,_⟩
 ·exact h4.mono key
 ·rw [hrun] at h4
  injection h4 with h4
  cases h4
theorem post_of_kept {H:Type} {enc:TypeId × Value→H} {W W':World} {fn:Func} {s:ChangeSpec} {m:Nat} {bt:TypeId} {apart fresh handsOn:Bool} {args:Array Value} {ds gs:List (DataW H)} {before:List MemPlace}
  (hs:fn.params.toList.all (supp cx.P m)=true) (hvars:s.vars=[]) (hres:fn.resultTypes=#[bt]) (hbt:cx.P.underlying bt=some .bool)
  (hfn:∀ ds:List (DataW H),ds.length=fn.params.toList.length→s.fn H ds={ results:=[.lit (.bool true)],args:=ds })
  (hW:DataW.Whole enc cx.P fn.params.toList s.vars apart W args.toList ds gs before) (hlen:ds.length=fn.params.toList.length)
  (hos:W'.os=W.os) (hout:W'.output=W.output) (hkept:∀ k,k<W.heap.size→W'.heap[k]?=W.heap[k]?) :
  s.post enc cx.P fn apart fresh handsOn false W args (.bool true) W':=by
 have hk:Kept W W':=fun b o hb=>by rw [hkept b (Array.getElem?_eq_some_iff.1 hb).1];exact hb
 have hW':=hW
 obtain⟨p,q,h1,h2,_,_,_⟩:=hW'
 rw [hvars] at h2
 obtain⟨rfl,rfl⟩:=Go.ChangeShapes.trodVars_none h2
 have e:s.fn H (ds++[])={ results:=[.lit (.bool true)],args:=ds }:=by rw [List.append_nil];exact hfn ds hlen
 refine⟨ds,[],before,[],p,[],hW,?_,?_,?_,?_,fun h=>by cases h⟩
 ·rw [e,hres]
  exact Go.ChangeShapes.trodAll_mk1 (Go.RowKit.shut_bool hbt true)
 ·rw [e]
  exact trodAll_kept hk (fun b hb=>by simpa using hb) m hs h1
 ·rw [e,hvars]
  rfl
 ·refine⟨hos,hout,fun i hi=>?_⟩
  rw [hkept i hi]
  have:=Array.getElem?_eq_getElem hi
  rw [this]
  cases W.heap[i] <;> simp
end
end Go.Proofs.YtmepdfingcmkmaaGreatDoor.Y
namespace Go.Proofs.YtmepdfingcmkmaaGreatDoor
open Go Y
set_option maxRecDepth 100000
set_option maxHeartbeats 4000000
end Go.Proofs.YtmepdfingcmkmaaGreatDoor
namespace Go.Proofs.YtmepdfingcmkmaaGreatDoor.Y
open Go
section
variable {H:Type} {enc:TypeId × Value→H} {P:Program} {W:World} {sp:Nat→Bool} {held:Bool}
end
section
variable {H:Type} {enc:TypeId × Value→H} {P:Program} {W W':World} {sp':Nat→Bool} {held:Bool}
end
section
variable {cx:Cx}
end
end Go.Proofs.YtmepdfingcmkmaaGreatDoor.Y
namespace Go.Proofs.YtmepdfingcmkmaaGreatDoor
open Go Y
set_option maxRecDepth 100000
set_option maxHeartbeats 4000000
structure Be where
 what:UInt8
 place:UInt8
 cse:UInt8
 n:Int
 name:List UInt8
 ref:Rf
 cond:Cd
abbrev Be.cells (b:Be):List PV:=[u8 b.what,u8 b.place,u8 b.cse,i64 b.n, .str b.name]++(b.ref.cells++b.cond.cells)
structure Be.ok (b:Be):Prop where
 n:-9223372036854775808≤b.n∧b.n≤9223372036854775807
 name:BigS b.name
 ref:BigR b.ref
 cond:BigC b.cond
set_option maxHeartbeats 40000000
structure Small (d:Nat) (c:Cd) (n:Nat):Prop where
 pos:1≤n
 valid:∀ left,n≤left→condV d c left=some (left - n)
 big:BigC c
 len:(spW true (condT c)).length≤240 * n
theorem leaf_few {op n rel val:Int} {r:Rf} {st:List Int} (hb:leafB op n rel val r st=true) (hs:st.length≤4):(leafT op n rel val r st).length≤21:=by
 unfold leafB at hb
 unfold leafT
 by_cases c6:op=6
 ·rw [if_neg (by omega),if_neg (by omega),if_pos c6] at hb
  simp only [Bool.and_eq_true,decide_eq_true_eq] at hb
  have hr:=ref_toks hb.1.1.1.1.1.1
  rw [if_pos c6]
  simp only [List.length_append,List.length_cons,List.length_nil];omega
 ·rw [if_neg c6]
  by_cases c5:op=5
  ·rw [if_neg (by omega),if_pos c5] at hb
   simp only [Bool.and_eq_true,decide_eq_true_eq] at hb
   obtain⟨⟨⟨⟨b1,b2⟩,b3⟩,b4⟩,b5⟩:=hb
   rw [if_pos c5]
   have hr:=ref_toks b1
   have hset:=setB_facts b5
   have hs:=sep_toks (f:=fun n=>[digT n]) (b:=1) (l:=st) fun a ha=>⟨allT_cons (tok_dig (hset.2.1 a ha)) allT_nil,by simp⟩
   simp only [List.length_append,List.length_cons,List.length_nil];omega
  ·rw [if_neg c5]
   by_cases c1:op=1∨op=2∨op=3∨op=4
   ·rw [if_pos c1] at hb
    simp only [Bool.and_eq_true,decide_eq_true_eq] at hb
    have hr:=ref_toks hb.1.1.1.1
    simp only [List.length_append,List.length_cons,List.length_nil];omega
   ·rw [if_neg c1,if_neg c5,if_neg c6] at hb
    cases hb
theorem ref_bigB {r:Rf} (h:refB r=true):BigR r:=by
 obtain⟨nm,m,pl,n⟩:=r
 rw [refB,Bool.and_eq_true] at h
 have h1:=name_len h.1
 refine⟨by show nm.length≤_;have h1:nm.length≤10:=h1;omega,?_⟩
 have h2:=h.2
 simp only [] at h2
 show pl.length≤_
 split at h2
 ·simp only [Bool.and_eq_true,decide_eq_true_eq] at h2
  rw [h2.1];simp
 ·split at h2
  ·simp only [Bool.and_eq_true] at h2
   have:=name_len h2.1
   omega
  ·split at h2
   ·simp only [Bool.and_eq_true,decide_eq_true_eq] at h2
    rw [h2.1];simp
   ·cases h2
theorem leafB_ref {op n rel val:Int} {r:Rf} {st:List Int} (hb:leafB op n rel val r st=true):refB r=true:=(leafB_facts hb).1
theorem leaf_small {op n rel val:Int} {r:Rf} {st:List Int} (h7:¬ op=7) (h8:¬ op=8) (h9:¬ op=9) (hb:leafB op n rel val r st=true) (hs:st.length≤4) (d:Nat):Small (d+1) (.mk op n rel val r st []) 1:=by
 refine⟨Nat.le_refl _,fun left hl=>?_,big_leaf (ref_bigB (leafB_ref hb)) (by omega),?_⟩
 ·rw [condV,if_neg (by omega),if_pos]
  ·rfl
  ·have h0:argsN op=0:=by rw [argsN,if_neg h7,if_neg (by omega)]
   rw [headB,if_pos h0,hb];rfl
 ·rw [condT_leaf h7 h8 h9]
  have h1:=leaf_few hb hs
  have h2:=spW_len true (leaf_toks hb).1
  omega
theorem len_in (k:Nat) (p:Int × Toks):(spW true (inT k p)).length≤(spW true p.2).length+4:=by
 unfold inT
 split
 ·show(spW true ([tLP]++(p.2++[tRP]))).length≤_
  rw [spW_t,spW_t]
  simp [spW]
 ·omega
theorem two_small {d na nb:Nat} {a b:Cd} {op:Int} (ho:op=8∨op=9) (ha:Small d a na) (hb:Small d b nb):Small (d+1) (.mk op 0 0 0 rf0 [] [a,b]) (1+na+nb):=by
 have h1:=ha.pos
 have h2:=hb.pos
 have l1:=ha.len
 have l2:=hb.len
 refine⟨by omega,fun left hl=>?_,big_two ha.big hb.big,?_⟩
 ·rw [condV,if_neg (by omega),if_pos]
  ·show(do
    let l ← condV d a (left - 1)
    let l ← condV d b l
    some l)=_
   rw [ha.valid _ (by omega)]
   show(do
    let l ← condV d b (left - 1 - na)
    some l)=_
   rw [hb.valid _ (by omega)]
   show some _=some _
   congr 1;omega
  ·rcases ho with rfl | rfl <;> rfl
 ·rcases ho with rfl | rfl
  ·rw [condT_conj,spW_t]
   have k1:=len_in 2 (a.op,condT a)
   have k2:=len_in 3 (b.op,condT b)
   simp only [] at k1 k2
   show((spW true (inT 2 (a.op,condT a)))++spW true ([tAnd]++inT 3 (b.op,condT b))).length≤_
   rw [spW_t,List.length_append,List.length_append]
   have k3:(spW true [tAnd]).length=4:=rfl
   omega
  ·rw [condT_disj,spW_t]
   have k1:=len_in 1 (a.op,condT a)
   have k2:=len_in 2 (b.op,condT b)
   simp only [] at k1 k2
   show((spW true (inT 1 (a.op,condT a)))++spW true ([tOr]++inT 2 (b.op,condT b))).length≤_
   rw [spW_t,List.length_append,List.length_append]
   have k3:(spW true [tOr]).length=3:=rfl
   omega
theorem neg_small {d na:Nat} {a:Cd} (ha:Small d a na):Small (d+1) (.mk 7 0 0 0 rf0 [] [a]) (1+na):=by
 have h1:=ha.pos
 have l1:=ha.len
 refine⟨by omega,fun left hl=>?_,big_one ha.big,?_⟩
 ·rw [condV,if_neg (by omega),if_pos]
  ·show(do
    let l ← condV d a (left - 1)
    some l)=_
   rw [ha.valid _ (by omega)]
   show some _=some _
   congr 1;omega
  ·rfl
 ·rw [condT_neg]
  have k1:=len_in 3 (a.op,condT a)
  simp only [] at k1
  show(spW true ([tNot]++inT 3 (a.op,condT a))).length≤_
  rw [spW_t,List.length_append]
  have k3:(spW true [tNot]).length=4:=rfl
  omega
abbrev withD (c:Cd):De:=⟨5,0,[],[],[],[⟨c,[1]⟩,⟨cd0,[-1,0]⟩]⟩
set_option maxHeartbeats 4000000
def isLP (t:List UInt8):Nat:=if t=tLP then 1 else 0
def lpP (ws:List Wd):Nat→Nat
 | 0=>0
 | q+1=>lpP ws q+isLP (txt ws q)
def pn (k:Nat) (p:Int × Nat):Nat:=p.2+if lvl p.1<k then 1 else 0
def cpJ (op:Int) (ps:List (Int × Nat)):Nat:=
 if op=9 then pn 1 (ps.getD 0 (0,0))+pn 2 (ps.getD 1 (0,0)) else if op=8 then pn 2 (ps.getD 0 (0,0))+pn 3 (ps.getD 1 (0,0)) else if op=7 then pn 3 (ps.getD 0 (0,0)) else if op=6 then 1 else 0
mutual
def cp:Cd→Nat
 | .mk op _ _ _ _ _ ar=>cpJ op (cpL ar)
def cpL:List Cd→List (Int × Nat)
 | []=>[]
 | c::r=>(c.op,cp c)::cpL r
end
def pin (k:Nat) (c:Cd):Nat:=pn k (c.op,cp c)
structure CLp (ws:List Wd) (F:Nat):Prop where
 cond:∀ {q c q'},condR ws F q=.inr (c,q')→lpP ws q+pin 1 c≤lpP ws q'
 orr:∀ {d q c q'},orR ws F d q=.inr (c,q')→∀ s,s+pin 1 d≤lpP ws q→s+pin 1 c≤lpP ws q'
 conj:∀ {q c q'},conjR ws F q=.inr (c,q')→lpP ws q+pin 2 c≤lpP ws q'
 andr:∀ {d q c q'},andR ws F d q=.inr (c,q')→∀ s,s+pin 2 d≤lpP ws q→s+pin 2 c≤lpP ws q'
 neg:∀ {q c q'},negR ws F q=.inr (c,q')→lpP ws q+pin 3 c≤lpP ws q'
 test:∀ {q c q'},testR ws F q=.inr (c,q')→lpP ws q+pin 4 c≤lpP ws q'
def lpT (x:Toks):Nat:=(x.map isLP).sum
def wgh (t:List UInt8):Int:=if t=tLP then 1 else if t=tRP then -1 else 0
def tot (x:Toks):Int:=(x.map wgh).sum
theorem tot_app (x y:Toks):tot (x++y)=tot x+tot y:=by rw [tot,List.map_append,List.sum_append];rfl
structure Bal (x:Toks):Prop where
 all:tot x=0
 pre:∀ n,0≤tot (x.take n)
theorem Bal.app {x y:Toks} (hx:Bal x) (hy:Bal y):Bal (x++y):=by
 refine⟨by rw [tot_app,hx.all,hy.all];rfl,fun n=>?_⟩
 rw [List.take_append,tot_app]
 have:=hx.pre n
 have:=hy.pre (n - x.length)
 omega
def Pl (t:List UInt8):Prop:=t ≠ tLP∧t ≠ tRP
structure CanP (c:Cd):Prop where
 bal:Bal (condT c)
 lp:lpT (condT c)=cp c
def rend1 (x:Toks):List UInt8:=x.flatMap fun t=>t++[32]
set_option maxHeartbeats 40000000
theorem nil_bigP:BigP []:=⟨by simp,fun d hd=>by cases hd⟩
structure WithF (c:Cd):Prop where
 valid:validB [withD c]=true
 all:AllT (declT (withD c))
 num:(declT (withD c)).length≤1500
 txt:(textT [withD c]).length≤8000
 len:(rend1 (declT (withD c))).length≤8000
 can:CanP c
 big:BigP [withD c]
set_option maxHeartbeats 4000000
def lw:Toks→Nat
 | []=>0
 | x::l=>x.length+lw l
theorem lw_cons (t:List UInt8) (x:Toks):lw (t::x)=t.length+lw x:=rfl
theorem lw_n:lw []=0:=rfl
theorem lw_app:∀ a b:Toks,lw (a++b)=lw a+lw b
 | [],b=>by simp [lw]
 | x::a,b=>by rw [List.cons_append,lw,lw,lw_app a b];omega
def nbB (c:UInt8):Bool:=decide (c.toNat ≠ 32) && decide (c.toNat ≠ 10)
def nb (s:List UInt8):Nat:=(s.filter nbB).length
def PLt (p q:Nat × Nat):Prop:=p.1<q.1∨(p.1=q.1∧p.2<q.2)
theorem PLt.trans {p q r:Nat × Nat} (h:PLt p q) (k:PLt q r):PLt p r:=by
 unfold PLt at *;omega
structure WSp (s:List UInt8) (k:Nat) (acc:List Wd):Prop where
 pl:∀ w∈acc,∃ o,o<k∧o≤s.length∧w.line=(at_ s o).1∧w.col=(at_ s o).2
 ne:∀ i j,i<j→j<acc.length→¬ ((wat acc i).line=(wat acc j).line∧(wat acc i).col=(wat acc j).col)
 lw:lw (acc.map Wd.text)≤nb (s.take k)
theorem lw_dig1 {n:Int} (h:n≤9):(digT n).length≤1:=by
 rw [digT,digN,if_pos (by omega)]
 exact Nat.le_refl _
theorem lw_flat {α:Type} {f:α→Toks} {b:Nat}:∀ {l:List α},(∀ a∈l,lw (f a)≤b)→lw (l.flatMap f)≤b * l.length
 | [],_=>Nat.zero_le _
 | a::l,h=>by
  have h1:=h a (List.mem_cons_self ..)
  have h2:=lw_flat (l:=l) fun x hx=>h x (List.mem_cons_of_mem _ hx)
  rw [List.flatMap_cons,lw_app,List.length_cons,Nat.mul_succ];omega
theorem lw_sep {α:Type} {f:α→Toks} {b:Nat}:∀ {l:List α},(∀ a∈l,lw (f a)≤b)→lw (sepT f l)≤(b+1) * l.length
 | [],_=>Nat.zero_le _
 | a::l,h=>by
  have h1:=h a (List.mem_cons_self ..)
  have h2:=lw_flat (l:=l) (f:=fun b=>tComma::f b) (b:=b+1) fun x hx=>by
   have:=h x (List.mem_cons_of_mem _ hx)
   simp only [lw_cons,List.length_cons,List.length_nil];omega
  show lw (f a++l.flatMap fun b=>tComma::f b)≤_
  rw [lw_app,List.length_cons,Nat.mul_succ];omega
structure RfS (r:Rf):Prop where
 ok:refB r=true
 nm:r.name.length=1
 pl:r.plate.length≤1
 n:r.n≤9
theorem lw_tail {r:Rf} (h:r.plate.length≤1) (hn:r.n≤9):lw (tailT r)≤5:=by
 have h1:=lw_dig1 hn
 unfold tailT
 split
 ·decide
 ·split
  ·simp only [lw_cons,lw_n,List.length_cons,List.length_nil];omega
  ·split
   ·split <;> simp only [lw_cons,lw_n,List.length_cons,List.length_nil] <;> omega
   ·exact Nat.zero_le _
theorem lw_ref {r:Rf} (h:RfS r):lw (refT r)≤6:=by
 have h1:=lw_tail h.pl h.n
 have h2:=h.nm
 rw [refT,lw_cons];omega
theorem lw_rel (k:Int):(relT k).length≤2:=by
 unfold relT
 split
 ·decide
 ·split
  ·decide
  ·split <;> decide
theorem lw_leaf {op n rel val:Int} {r:Rf} {st:List Int} (h:RfS r) (hn:n≤9) (hv:val≤9) (hs:st.length≤2∧∀ a∈st,a≤9):lw (leafT op n rel val r st)≤18:=by
 have h0:=lw_ref h
 have h1:=lw_dig1 hn
 have h2:=lw_dig1 hv
 have h3:=lw_rel rel
 have h4:=lw_rel op
 have h5:=lw_sep (f:=fun n=>[digT n]) (b:=1) (l:=st) fun a ha=>by
  have:=lw_dig1 (hs.2 a ha)
  simp only [lw_cons,lw_n];omega
 have hs1:=hs.1
 unfold leafT
 split
 ·simp only [lw_app,lw_cons,lw_n,List.length_cons,List.length_nil];omega
 ·split
  ·simp only [lw_app,lw_cons,lw_n,List.length_cons,List.length_nil];omega
  ·simp only [lw_app,lw_cons,lw_n];omega
structure CdS (d:Nat) (c:Cd) (n k:Nat):Prop where
 sm:Small d c n
 wt:lw (condT c)≤k
theorem CdS.leaf {op n rel val:Int} {r:Rf} {st:List Int} (h7:¬ op=7) (h8:¬ op=8) (h9:¬ op=9) (hb:leafB op n rel val r st=true) (hr:RfS r) (hn:n≤9) (hv:val≤9) (hs:st.length≤2∧∀ a∈st,a≤9) (d:Nat):CdS (d+1) (.mk op n rel val r st []) 1 18:=
 ⟨leaf_small h7 h8 h9 hb (by have:=hs.1;omega) d,by rw [condT_leaf h7 h8 h9];exact lw_leaf hr hn hv hs⟩
theorem lw_in (k:Nat) (p:Int × Toks):lw (inT k p)≤lw p.2+2:=by
 unfold inT
 split
 ·simp only [lw_app,lw_cons,lw_n,List.length_cons,List.length_nil];omega
 ·omega
theorem CdS.neg {d n k:Nat} {a:Cd} (ha:CdS d a n k):CdS (d+1) (.mk 7 0 0 0 rf0 [] [a]) (1+n) (k+5):=by
 refine⟨neg_small ha.sm,?_⟩
 rw [condT_neg]
 have h1:=ha.wt
 have h2:=lw_in 3 (a.op,condT a)
 simp only [] at h2
 show lw (tNot::inT 3 (a.op,condT a))≤_
 rw [lw_cons]
 simp only [List.length_cons,List.length_nil];omega
theorem CdS.two {d na nb ka kb:Nat} {a b:Cd} {op:Int} (ho:op=8∨op=9) (ha:CdS d a na ka) (hb:CdS d b nb kb):CdS (d+1) (.mk op 0 0 0 rf0 [] [a,b]) (1+na+nb) (ka+kb+7):=by
 refine⟨two_small ho ha.sm hb.sm,?_⟩
 have h1:=ha.wt
 have h2:=hb.wt
 rcases ho with rfl | rfl
 ·rw [condT_conj]
  have k1:=lw_in 2 (a.op,condT a)
  have k2:=lw_in 3 (b.op,condT b)
  simp only [] at k1 k2
  show lw (inT 2 (a.op,condT a)++(tAnd::inT 3 (b.op,condT b)))≤_
  rw [lw_app,lw_cons]
  simp only [List.length_cons,List.length_nil];omega
 ·rw [condT_disj]
  have k1:=lw_in 1 (a.op,condT a)
  have k2:=lw_in 2 (b.op,condT b)
  simp only [] at k1 k2
  show lw (inT 1 (a.op,condT a)++(tOr::inT 2 (b.op,condT b)))≤_
  rw [lw_app,lw_cons]
  simp only [List.length_cons,List.length_nil];omega
theorem CdS.le {d n k k':Nat} {a:Cd} (h:CdS d a n k) (hk:k≤k'):CdS d a n k':=⟨h.sm,Nat.le_trans h.wt hk⟩
structure NuS (l:List Int):Prop where
 ok:numsB l=true
 wt:lw (numsT l)≤6
theorem NuS.len {l:List Int} (h:NuS l):l.length≤8:=by
 have:=h.ok
 simp only [numsB,Bool.and_eq_true,decide_eq_true_eq] at this
 exact this.1.2
structure CsS (c:Cs):Prop where
 cd:∃ n,n≤3∧CdS 8 c.cond n 43
 nu:NuS c.nums
structure LsS (c:Cs):Prop where
 cd:c.cond=cd0
 nu:NuS c.nums
structure RuS (l:List Cs):Prop where
 ok:casesB l=true
 wt:lw (ruleT l)≤166
 big:BigL l
structure DeS (d:De) (k:Nat):Prop where
 ok:declB d=true
 big:BigD d
 wt:lw (declT d)≤k
theorem tok_lw:∀ {x:Toks},AllT x→x.length≤lw x
 | [],_=>Nat.le_refl _
 | t::x,h=>by
  have h1:=(tok_len (h t (List.mem_cons_self ..))).1
  have h2:=tok_lw (x:=x) fun u hu=>h u (List.mem_cons_of_mem _ hu)
  rw [lw_cons,List.length_cons];omega
theorem spW_lw:∀ x:Toks,(spW true x).length≤lw x+x.length
 | []=>Nat.le_refl _
 | t::x=>by
  have:=spW_lw x
  show([32]++(t++spW true x)).length≤_
  simp only [List.length_append,List.length_cons,List.length_nil,lw_cons];omega
structure PrS (ds:List De) (k:Nat):Prop where
 ok:∀ d∈ds,declB d=true∧BigD d
 wt:lw (ds.flatMap declT)≤k
theorem PrS.nil:PrS [] 0:=⟨fun d hd=>(by cases hd),Nat.le_refl _⟩
theorem PrS.le {ds:List De} {k k':Nat} (h:PrS ds k) (hk:k≤k'):PrS ds k':=⟨h.ok,Nat.le_trans h.wt hk⟩
theorem text_lw:∀ ds:List De,(textT ds).length≤lw (ds.flatMap declT)+cntT ds
 | []=>Nat.le_refl _
 | d::ds=>by
  have h1:=text_lw ds
  have h2:=spW_lw (declT d)
  rw [spW_tf (decl_ne d),List.length_cons] at h2
  have h3:cntT (d::ds)=(declT d).length+cntT ds:=rfl
  show((spW false (declT d)++[10])++textT ds).length≤_
  rw [List.flatMap_cons,lw_app,h3]
  simp only [List.length_append,List.length_cons,List.length_nil];omega
theorem decls_all {ds:List De} (h:∀ d∈ds,declB d=true):AllT (ds.flatMap declT):=fun t ht=>by
 obtain⟨d,hd,ht⟩:=List.mem_flatMap.1 ht
 exact(decl_toks (h d hd)).1 t ht
structure DrP (ds:List De):Prop where
 valid:validB ds=true
 big:BigP ds
 txt:(textT ds).length≤2600
 cnt:cntT ds≤1300
 lw:lw (ds.flatMap declT)≤1300
theorem PrS.fin {ds:List De} {k:Nat} (h:PrS ds k) (hl:ds.length≤30) (hk:k≤1300):DrP ds:=by
 have h1:=text_lw ds
 have h2:=h.wt
 have h3:=tok_lw (decls_all fun d hd=>(h.ok d hd).1)
 rw [flat_len] at h3
 refine⟨?_,⟨by omega,fun d hd=>(h.ok d hd).2⟩,by omega,by omega,by omega⟩
 rw [validB,decide_eq_true hl,List.all_eq_true.2 fun d hd=>(h.ok d hd).1];rfl
structure Pc where
 w:UInt8
 o:UInt8
 n:UInt8
 m:UInt8
 x:UInt8
 y:UInt8
 z:UInt8
abbrev Pc.cells (p:Pc):List PV:=[u8 p.w,u8 p.o,u8 p.n,u8 p.m,u8 p.x,u8 p.y,u8 p.z]
structure Wgt (l:List Int) (k:Nat):Prop where
 len:l.length=k
 bd:∀ x∈l,0≤x∧x≤12
theorem lw_int {n:Int} (h:0≤n∧n≤12):lw (intT n)≤2:=by
 rw [intT,if_neg (by omega),lw_cons,lw_n,digT,digN]
 split
 ·exact Nat.le_succ_of_le (Nat.le_refl _)
 ·rw [digN,if_pos (by omega)]
  exact Nat.le_refl _
theorem Wgt.nu {l:List Int} {k:Nat} (h:Wgt l k) (hk:k=2∨k=3):NuS l:=by
 have h1:=h.len
 refine⟨?_,?_⟩
 ·rw [numsB,decide_eq_true (by omega),decide_eq_true (by omega),List.all_eq_true.2]
  ·rfl
  ·intro x hx
   have:=h.bd x hx
   rw [wgtB,decide_eq_true (by omega),decide_eq_true (by omega)];rfl
 ·have:=lw_flat (f:=intT) (b:=2) (l:=l) fun x hx=>lw_int (h.bd x hx)
  rw [numsT];omega
set_option maxHeartbeats 40000000
structure Pt where
 kind:UInt8
 card:UInt8
 frm:UInt8
 modes:UInt8
 pl:Bool
 cases:List Pc
 x:UInt8
 y:UInt8
 z:UInt8
abbrev Pt.cells (p:Pt):List PV:=[u8 p.kind,u8 p.card,u8 p.frm,u8 p.modes, .bool p.pl, .lsts 7 (p.cases.map Pc.cells),u8 p.x,u8 p.y,u8 p.z]
structure Kn where
 nm:List UInt8
 card:Int
 pl:Bool
abbrev Kn.cells (k:Kn):List PV:=[.str k.nm,i64 k.card, .bool k.pl]
structure KnS (k:Kn):Prop where
 ok:nameN k.nm=true
 len:k.nm.length=1
 card:k.card=2∨k.card=3
structure RcS (rs:List Rf) (cs:List Int):Prop where
 refs:∀ r∈rs,RfS r
 nums:∀ c∈cs,c=2∨c=3
 eq:rs.length=cs.length
 len:rs.length≤2
structure RcA (rs:List Rf) (cs:List Int):Prop where
 ok:RcS rs cs
 pos:1≤rs.length
structure GrS (k:Nat) (g:Int):Prop where
 ok:(k=0∧g=0)∨((k=2∨k=3)∧1≤g∧g≤12)
structure OutS (out:List Cs) (i:Nat):Prop where
 cs:∀ c∈out,CsS c
 len:out.length≤i
structure Dp where
 grain:UInt8
 plate:UInt8
 nodes:List Pt
 choice:Pt
 gains:List Pt
 chooses:Bool
abbrev Dp.cells (d:Dp):List PV:=[u8 d.grain,u8 d.plate, .lsts 9 (d.nodes.map Pt.cells),u8 d.choice.kind,u8 d.choice.card,u8 d.choice.frm,u8 d.choice.modes, .bool d.choice.pl, .lsts 7 (d.choice.cases.map Pc.cells),u8 d.choice.x,u8 d.choice.y,u8 d.choice.z, .lsts 9 (d.gains.map Pt.cells), .bool d.chooses]
structure Dp.ok (d:Dp):Prop where
 nodes:d.nodes.length≤9223372036854775807
 gains:d.gains.length≤9223372036854775807
 ncases:∀ p∈d.nodes,p.cases.length≤9223372036854775807
 gcases:∀ p∈d.gains,p.cases.length≤9223372036854775807
structure PgS (Y:List (List PV)) (n k:Nat):Prop where
 ds:∃ ds:List De,NilDLL Y (ds.map De.cells)∧PrS ds k∧ds.length=n
theorem PgS.len {Y:List (List PV)} {n k:Nat} (h:PgS Y n k):Y.length=n:=by
 obtain⟨ds,h1,_,h3⟩:=h.ds
 have:=h1.len
 rw [List.length_map] at this
 omega
theorem PgS.le {Y:List (List PV)} {n k k':Nat} (h:PgS Y n k) (hk:k≤k'):PgS Y n k':=by
 obtain⟨ds,h1,h2,h3⟩:=h.ds
 exact⟨ds,h1,h2.le hk,h3⟩
structure LkS (l:List Kn) (i:Nat):Prop where
 ok:∀ k∈l,KnS k
 len:l.length=i
structure SdP (d:De) (k:Nat):Prop where
 big:BigD d
 refs:d.refs.length≤k
 cases:d.cases.length≤k
 nums:∀ c∈d.cases,c.nums.length≤k
structure SzP (ds:List De) (k:Nat):Prop where
 len:ds.length≤k
 decl:∀ d∈ds,SdP d k
theorem SdP.mono {d:De} {k m:Nat} (h:SdP d k) (hm:k≤m):SdP d m:=⟨h.big,Nat.le_trans h.refs hm,Nat.le_trans h.cases hm,fun c hc=>Nat.le_trans (h.nums c hc) hm⟩
end Go.Proofs.YtmepdfingcmkmaaGreatDoor
