/- Part 4 of the proof: Kq Kr Ks Ac Kt Ku Kv Kw Kx Ky Ga Ja Jb Jc Jd Je Jf Lo Lp Lq Lr Lv Lw Pa Pb Oa Yzd Yze Va Si Sk Vb Ob Oc Od Oe Of Og Vc -/
import Derived.Shelf.Strings.Builder1
import Derived.Shelf.Strings.Builder2
import Derived.Shelf.Small.Bits
import Derived.Shelf.Strings.BuilderF
import Derived.Shelf.Utf8.RuneCount
import Derived.Shelf.Strconv.Itoa0
import Derived.Shelf.Strconv.Itoa1
import Derived.Shelf.LaysM
import Derived.Shelf.Strconv.Itoa2
import Derived.Shelf.Strconv.Itoa3
import Derived.Shelf.Strings.Search1
import Derived.Shelf.Strings.Search2
import Derived.Shelf.Strings.Search3
import Derived.Shelf.Strings.Count
import Derived.Shelf.Strings.Shaped
import Derived.Shelf.Sort.Plain
import Derived.Shelf.Strings.Prefix
import Derived.Shelf.Strings.Split
import Derived.Shelf.Strings.Replace
import Derived.Shelf.Strings.SplitShaped
import Derived.Shelf.Unicode.Decode
import Derived.Shelf.Strings.RuneCount
import Derived.Shelf.Bits.Mul64
import Derived.Shelf.Strings.Repeat
import Derived.Shelf.Unicode.DecodeSlow
import Derived.Shelf.Unicode.DecodeAny
import Derived.Ground.Names2Prog
import Derived.Shelf.Slices.CompactI
import Derived.Shelf.Slices.SearchI
import Derived.Shelf.Slices.Cells
import Derived.Shelf.Slices.In.SortNone
import Derived.Test.YtohfoaplnjcihaaGreatDoorProg
import Derived.Below
import Derived.Test.YtohfoaplnjcihaaGreatDoorQ3
namespace Go.Proofs.YtohfoaplnjcihaaGreatDoor
open Go Y
set_option maxRecDepth 100000
set_option maxHeartbeats 40000000
def lfO (l:Int):AObj:=⟨qVZ,false, .bx [.p (i64 l)]⟩
abbrev lfH (l:Nat):Hp:=⟨1,[(0,lfO l)]⟩
def cvQ (r:Option Nat) (e:AE) (H':Hp):Prop:=match r with
 | some l=>e=.returned (vB true)/\H'=lfH l
 | none=>e=.returned (vB false)/\H'=⟨1,[]⟩
theorem qDM {l:List Cd} {k:Nat} (h:k<l.length):(l.map Cd.cells)[k]?=some (l.getD k cd0).cells:=qEO cd0 h
def qYA (d:Nat):Prop:=∀ (c:Cd) (left p:Nat),qCq c->left<=1000->p+d=9->HoldsG cx 128 [.p c.pv, .p (i64 p), .ptr 0 0 0] (lfH left) (cvQ (qAp d c left))
theorem qVL (d:Nat) (ih:qYA d):qYA (d+1):=by
 rintro⟨op,n,rel,val,r,st,ar⟩ left p hb hl hp9
 simp only [qCq] at hb
 obtain⟨hb1,hb2,hb3,hb4⟩:=hb
 have hP:=qQY op n rel val r st ar hb2
 have epv:(Cd.mk op n rel val r st ar).pv=.agg [i64 op,i64 n,i64 rel,i64 val, .str r.name,i64 r.mode, .str r.plate,i64 r.n,ints st,cds ar]:=by
  show PV.agg [i64 op,i64 n,i64 rel,i64 val, .str r.name,i64 r.mode, .str r.plate,i64 r.n,ints st, .lsts 10 (qBV ar)]=_
  rw [qBr]
 rw [epv] at hP ⊢
 generalize hR:qAp (d+1) (.mk op n rel val r st ar) left=R
 rw [qAp] at hR
 have hRf:=qHp r hb1
 have hNn:=qEi n
 have hNv:=qEi val
 have hS:=qXZ st hb2
 refine qAA Tryz.func128 rfl rfl rfl ?_
 rcases Nat.eq_zero_or_pos left with h0 | h0
 ·subst h0
  rw [if_pos rfl] at hR
  refine⟨-1,by decide,?_⟩
  refine And.intro (fun _=>?_) (fun h=>absurd (show(-1:Int)<0 by decide) h)
  exact⟨[],[],[], .returned (vB false),⟨1,[]⟩,rfl,sk,trivial,by rw [<- hR];exact⟨rfl,rfl⟩⟩
 obtain⟨m,rfl⟩:∃ m,left=m+1:=⟨left - 1,by omega⟩
 rw [if_neg (by omega),Nat.add_sub_cancel] at hR
 have hno:qAb op n rel val r st ar.length=false->R=none:=fun h=>by rw [<- hR,if_neg (by rw [h];decide)]
 have hyes:qAb op n rel val r st ar.length=true->ar.foldlM (fun l c=>qAp d c l) m=R:=fun h=>by rw [<- hR,if_pos h]
 clear hR
 refine⟨(m:Int),by rw [show((m+1:Nat):Int) - 1=(m:Int) by omega];exact w6z,?_⟩
 refine And.intro (fun h=>absurd (show(m:Int)<0 from h) (by omega)) (fun _=>?_)
 refine And.intro (fun h=>absurd (show(8:Int)<(p:Nat) from h) (by omega)) (fun _=>?_)
 refine QAD (fun o1=>?_) (fun o1=>?_)
 ·have o1:op=1:=o1
  by_cases r1:qBp r=true
  rotate_left
  ·rw [Bool.not_eq_true] at r1
   rw [r1] at hRf
   refine hRf.eq rfl ?_
   exact⟨[],[],[], .returned (vB false),⟨1,[]⟩,rfl,sk,trivial,by rw [hno (by simp [qAb,qAc,qAT, *])];exact⟨rfl,rfl⟩⟩
  rw [r1] at hRf
  refine hRf.eq rfl ?_
  by_cases r2:qBm n=true
  rotate_left
  ·rw [Bool.not_eq_true] at r2
   rw [r2] at hNn
   refine hNn.eq rfl ?_
   exact⟨[],[],[], .returned (vB false),⟨1,[]⟩,rfl,sk,trivial,by rw [hno (by simp [qAb,qAc,qAT, *])];exact⟨rfl,rfl⟩⟩
  rw [r2] at hNn
  refine hNn.eq rfl ?_
  refine And.intro (fun r3=>?_) (fun r3=>?_)
  rotate_left
  ·have r3:¬ rel=0:=r3
   exact⟨[],[],[], .returned (vB false),⟨1,[]⟩,rfl,sk,trivial,by rw [hno (by simp [qAb,qAc,qAT, *])];exact⟨rfl,rfl⟩⟩
  have r3:rel=0:=r3
  refine And.intro (fun r4=>?_) (fun r4=>?_)
  rotate_left
  ·have r4:¬ val=0:=r4
   exact⟨[],[],[], .returned (vB false),⟨1,[]⟩,rfl,sk,trivial,by rw [hno (by simp [qAb,qAc,qAT, *])];exact⟨rfl,rfl⟩⟩
  have r4:val=0:=r4
  refine And.intro (fun r5=>?_) (fun r5=>?_)
  rotate_left
  ·have r5:¬ ((st.map i64).length:Int)=0:=r5
   have r5:¬ st=[]:=fun e=>r5 (by rw [e];rfl)
   exact⟨[],[],[], .returned (vB false),⟨1,[]⟩,rfl,sk,trivial,by rw [hno (by simp [qAb,qAc,qAT, *])];exact⟨rfl,rfl⟩⟩
  have r5:((st.map i64).length:Int)=0:=r5
  have r5:st=[]:=by rw [List.length_map] at r5;exact List.length_eq_zero_iff.1 (by omega)
  by_cases hk:ar.length=0
  rotate_left
  ·refine And.intro (fun h=>absurd (show((ar.map Cd.cells).length:Int)=0 from h) (by rw [List.length_map];omega)) (fun _=>?_)
   exact⟨[],[],[], .returned (vB false),⟨1,[]⟩,rfl,sk,trivial,by rw [hno (by simp [qAb,qAc, *])];exact⟨rfl,rfl⟩⟩
  refine And.intro (fun _=>?_) (fun h=>absurd (show((ar.map Cd.cells).length:Int)=0 by rw [List.length_map];omega) h)
  refine And.intro (fun h=>absurd (show(0:Int)<0 from h) (by decide)) (fun _=>?_)
  refine⟨Nat × Nat,fun x=>[(1, .p (i64 p)),(2, .ptr 0 0 0),(143, .p (cds ar)),(144, .p (i64 ar.length)),(145, .p (i64 x.1))],fun x=>lfH x.2,fun x=>x.1<=ar.length/\x.2<=1000/\(ar.drop x.1).foldlM (fun l c=>qAp d c l) x.2=R,fun x=>ar.length - x.1,?_,?_⟩
  ·exact⟨(0,m),⟨Nat.zero_le _,by simp only [];omega,hyes (by first | (simp [qAb,qAc, *];done) | simp [qAb,qAc,qAT, *])⟩,qAC [] [] [] rfl ⟨rfl,⟨rfl,rfl⟩,rfl,congrArg (fun n:Nat=>i64 n) (List.length_map ..).symm,rfl,trivial⟩ ⟨⟨_,rfl,rfl,rfl,_,rfl,_,_,rfl,congrArg i64 (by omega),rfl⟩,trivial⟩ rfl⟩
  rintro⟨i,l⟩ ⟨i1,i2,i3⟩
  simp only [] at i1 i2 i3
  refine QAD (fun j1=>?_) (fun j1=>?_)
  rotate_left
  ·have j1:¬ (i:Int)<(ar.length:Nat):=j1
   rw [List.drop_eq_nil_of_le (by omega),List.foldlM_nil] at i3
   exact⟨[],[],[], .returned (vB true),lfH l,rfl,sk,sk,by rw [<- i3];exact⟨rfl,rfl⟩⟩
  have j1:(i:Int)<(ar.length:Nat):=j1
  have hi:i<ar.length:=by omega
  rw [qE9 cd0 hi,List.foldlM_cons] at i3
  have hbx:=qBS hb4 (qAJ cd0 hi)
  have hcell:=qDM hi
  rcases hx:ar.getD i cd0 with ⟨o',n',rl',vl',rf',st',ar'⟩
  rw [hx] at i3 hbx hcell
  refine⟨_,⟨by omega,(Cd.mk o' n' rl' vl' rf' st' ar').cells,hcell,rfl⟩,?_⟩
  refine⟨((p+1:Nat):Int),w6z,?_⟩
  have hrec:=ih (.mk o' n' rl' vl' rf' st' ar') l (p+1) hbx (by omega) (by omega)
  rcases hv:qAp d (.mk o' n' rl' vl' rf' st' ar') l with _ | l2
  ·rw [hv] at hrec i3
   refine hrec.holds.useT [] [] rfl (sk) (sk) fun e0 H0 hq=>?_
   obtain⟨rfl,rfl⟩:=hq
   refine⟨rfl,_,_,rfl,rfl,?_⟩
   exact⟨[],[],[], .returned (vB false),⟨1,[]⟩,rfl,sk,trivial,by rw [<- i3];exact⟨rfl,rfl⟩⟩
  ·have hle:=qB4 _ _ _ _ hv
   rw [hv] at hrec i3
   refine hrec.holds.useT [] [] rfl (sk) (sk) fun e0 H0 hq=>?_
   obtain⟨rfl,rfl⟩:=hq
   refine⟨rfl,_,⟨2,[(0,lfO l2),(1,cO ((Cd.mk o' n' rl' vl' rf' st' ar').cells.map .p))]⟩,rfl,rfl,?_⟩
   refine⟨_,w6z,?_⟩
   exact⟨(i+1,l2),⟨by simp only [];omega,by simp only [];omega,i3⟩,qAC [] [] [] rfl (sk) (sk) rfl,by show ar.length - (i+1)<ar.length - i;omega⟩
 have o1:¬ op=1:=o1
 refine QAD (fun o2=>?_) (fun o2=>?_)
 ·have o2:op=2:=o2
  by_cases r1:qBp r=true
  rotate_left
  ·rw [Bool.not_eq_true] at r1
   rw [r1] at hRf
   refine hRf.eq rfl ?_
   exact⟨[],[],[], .returned (vB false),⟨1,[]⟩,rfl,sk,trivial,by rw [hno (by simp [qAb,qAc,qAT, *])];exact⟨rfl,rfl⟩⟩
  rw [r1] at hRf
  refine hRf.eq rfl ?_
  by_cases r2:qBm n=true
  rotate_left
  ·rw [Bool.not_eq_true] at r2
   rw [r2] at hNn
   refine hNn.eq rfl ?_
   exact⟨[],[],[], .returned (vB false),⟨1,[]⟩,rfl,sk,trivial,by rw [hno (by simp [qAb,qAc,qAT, *])];exact⟨rfl,rfl⟩⟩
  rw [r2] at hNn
  refine hNn.eq rfl ?_
  refine And.intro (fun r3=>?_) (fun r3=>?_)
  rotate_left
  ·have r3:¬ rel=0:=r3
   exact⟨[],[],[], .returned (vB false),⟨1,[]⟩,rfl,sk,trivial,by rw [hno (by simp [qAb,qAc,qAT, *])];exact⟨rfl,rfl⟩⟩
  have r3:rel=0:=r3
  refine And.intro (fun r4=>?_) (fun r4=>?_)
  rotate_left
  ·have r4:¬ val=0:=r4
   exact⟨[],[],[], .returned (vB false),⟨1,[]⟩,rfl,sk,trivial,by rw [hno (by simp [qAb,qAc,qAT, *])];exact⟨rfl,rfl⟩⟩
  have r4:val=0:=r4
  refine And.intro (fun r5=>?_) (fun r5=>?_)
  rotate_left
  ·have r5:¬ ((st.map i64).length:Int)=0:=r5
   have r5:¬ st=[]:=fun e=>r5 (by rw [e];rfl)
   exact⟨[],[],[], .returned (vB false),⟨1,[]⟩,rfl,sk,trivial,by rw [hno (by simp [qAb,qAc,qAT, *])];exact⟨rfl,rfl⟩⟩
  have r5:((st.map i64).length:Int)=0:=r5
  have r5:st=[]:=by rw [List.length_map] at r5;exact List.length_eq_zero_iff.1 (by omega)
  by_cases hk:ar.length=0
  rotate_left
  ·refine And.intro (fun h=>absurd (show((ar.map Cd.cells).length:Int)=0 from h) (by rw [List.length_map];omega)) (fun _=>?_)
   exact⟨[],[],[], .returned (vB false),⟨1,[]⟩,rfl,sk,trivial,by rw [hno (by simp [qAb,qAc, *])];exact⟨rfl,rfl⟩⟩
  refine And.intro (fun _=>?_) (fun h=>absurd (show((ar.map Cd.cells).length:Int)=0 by rw [List.length_map];omega) h)
  refine And.intro (fun h=>absurd (show(0:Int)<0 from h) (by decide)) (fun _=>?_)
  refine⟨Nat × Nat,fun x=>[(1, .p (i64 p)),(2, .ptr 0 0 0),(143, .p (cds ar)),(144, .p (i64 ar.length)),(145, .p (i64 x.1))],fun x=>lfH x.2,fun x=>x.1<=ar.length/\x.2<=1000/\(ar.drop x.1).foldlM (fun l c=>qAp d c l) x.2=R,fun x=>ar.length - x.1,?_,?_⟩
  ·exact⟨(0,m),⟨Nat.zero_le _,by simp only [];omega,hyes (by first | (simp [qAb,qAc, *];done) | simp [qAb,qAc,qAT, *])⟩,qAC [] [] [] rfl ⟨rfl,⟨rfl,rfl⟩,rfl,congrArg (fun n:Nat=>i64 n) (List.length_map ..).symm,rfl,trivial⟩ ⟨⟨_,rfl,rfl,rfl,_,rfl,_,_,rfl,congrArg i64 (by omega),rfl⟩,trivial⟩ rfl⟩
  rintro⟨i,l⟩ ⟨i1,i2,i3⟩
  simp only [] at i1 i2 i3
  refine QAD (fun j1=>?_) (fun j1=>?_)
  rotate_left
  ·have j1:¬ (i:Int)<(ar.length:Nat):=j1
   rw [List.drop_eq_nil_of_le (by omega),List.foldlM_nil] at i3
   exact⟨[],[],[], .returned (vB true),lfH l,rfl,sk,sk,by rw [<- i3];exact⟨rfl,rfl⟩⟩
  have j1:(i:Int)<(ar.length:Nat):=j1
  have hi:i<ar.length:=by omega
  rw [qE9 cd0 hi,List.foldlM_cons] at i3
  have hbx:=qBS hb4 (qAJ cd0 hi)
  have hcell:=qDM hi
  rcases hx:ar.getD i cd0 with ⟨o',n',rl',vl',rf',st',ar'⟩
  rw [hx] at i3 hbx hcell
  refine⟨_,⟨by omega,(Cd.mk o' n' rl' vl' rf' st' ar').cells,hcell,rfl⟩,?_⟩
  refine⟨((p+1:Nat):Int),w6z,?_⟩
  have hrec:=ih (.mk o' n' rl' vl' rf' st' ar') l (p+1) hbx (by omega) (by omega)
  rcases hv:qAp d (.mk o' n' rl' vl' rf' st' ar') l with _ | l2
  ·rw [hv] at hrec i3
   refine hrec.holds.useT [] [] rfl (sk) (sk) fun e0 H0 hq=>?_
   obtain⟨rfl,rfl⟩:=hq
   refine⟨rfl,_,_,rfl,rfl,?_⟩
   exact⟨[],[],[], .returned (vB false),⟨1,[]⟩,rfl,sk,trivial,by rw [<- i3];exact⟨rfl,rfl⟩⟩
  ·have hle:=qB4 _ _ _ _ hv
   rw [hv] at hrec i3
   refine hrec.holds.useT [] [] rfl (sk) (sk) fun e0 H0 hq=>?_
   obtain⟨rfl,rfl⟩:=hq
   refine⟨rfl,_,⟨2,[(0,lfO l2),(1,cO ((Cd.mk o' n' rl' vl' rf' st' ar').cells.map .p))]⟩,rfl,rfl,?_⟩
   refine⟨_,w6z,?_⟩
   exact⟨(i+1,l2),⟨by simp only [];omega,by simp only [];omega,i3⟩,qAC [] [] [] rfl (sk) (sk) rfl,by show ar.length - (i+1)<ar.length - i;omega⟩
 have o2:¬ op=2:=o2
 refine QAD (fun o3=>?_) (fun o3=>?_)
 ·have o3:op=3:=o3
  by_cases r1:qBp r=true
  rotate_left
  ·rw [Bool.not_eq_true] at r1
   rw [r1] at hRf
   refine hRf.eq rfl ?_
   exact⟨[],[],[], .returned (vB false),⟨1,[]⟩,rfl,sk,trivial,by rw [hno (by simp [qAb,qAc,qAT, *])];exact⟨rfl,rfl⟩⟩
  rw [r1] at hRf
  refine hRf.eq rfl ?_
  by_cases r2:qBm n=true
  rotate_left
  ·rw [Bool.not_eq_true] at r2
   rw [r2] at hNn
   refine hNn.eq rfl ?_
   exact⟨[],[],[], .returned (vB false),⟨1,[]⟩,rfl,sk,trivial,by rw [hno (by simp [qAb,qAc,qAT, *])];exact⟨rfl,rfl⟩⟩
  rw [r2] at hNn
  refine hNn.eq rfl ?_
  refine And.intro (fun r3=>?_) (fun r3=>?_)
  rotate_left
  ·have r3:¬ rel=0:=r3
   exact⟨[],[],[], .returned (vB false),⟨1,[]⟩,rfl,sk,trivial,by rw [hno (by simp [qAb,qAc,qAT, *])];exact⟨rfl,rfl⟩⟩
  have r3:rel=0:=r3
  refine And.intro (fun r4=>?_) (fun r4=>?_)
  rotate_left
  ·have r4:¬ val=0:=r4
   exact⟨[],[],[], .returned (vB false),⟨1,[]⟩,rfl,sk,trivial,by rw [hno (by simp [qAb,qAc,qAT, *])];exact⟨rfl,rfl⟩⟩
  have r4:val=0:=r4
  refine And.intro (fun r5=>?_) (fun r5=>?_)
  rotate_left
  ·have r5:¬ ((st.map i64).length:Int)=0:=r5
   have r5:¬ st=[]:=fun e=>r5 (by rw [e];rfl)
   exact⟨[],[],[], .returned (vB false),⟨1,[]⟩,rfl,sk,trivial,by rw [hno (by simp [qAb,qAc,qAT, *])];exact⟨rfl,rfl⟩⟩
  have r5:((st.map i64).length:Int)=0:=r5
  have r5:st=[]:=by rw [List.length_map] at r5;exact List.length_eq_zero_iff.1 (by omega)
  by_cases hk:ar.length=0
  rotate_left
  ·refine And.intro (fun h=>absurd (show((ar.map Cd.cells).length:Int)=0 from h) (by rw [List.length_map];omega)) (fun _=>?_)
   exact⟨[],[],[], .returned (vB false),⟨1,[]⟩,rfl,sk,trivial,by rw [hno (by simp [qAb,qAc, *])];exact⟨rfl,rfl⟩⟩
  refine And.intro (fun _=>?_) (fun h=>absurd (show((ar.map Cd.cells).length:Int)=0 by rw [List.length_map];omega) h)
  refine And.intro (fun h=>absurd (show(0:Int)<0 from h) (by decide)) (fun _=>?_)
  refine⟨Nat × Nat,fun x=>[(1, .p (i64 p)),(2, .ptr 0 0 0),(143, .p (cds ar)),(144, .p (i64 ar.length)),(145, .p (i64 x.1))],fun x=>lfH x.2,fun x=>x.1<=ar.length/\x.2<=1000/\(ar.drop x.1).foldlM (fun l c=>qAp d c l) x.2=R,fun x=>ar.length - x.1,?_,?_⟩
  ·exact⟨(0,m),⟨Nat.zero_le _,by simp only [];omega,hyes (by first | (simp [qAb,qAc, *];done) | simp [qAb,qAc,qAT, *])⟩,qAC [] [] [] rfl ⟨rfl,⟨rfl,rfl⟩,rfl,congrArg (fun n:Nat=>i64 n) (List.length_map ..).symm,rfl,trivial⟩ ⟨⟨_,rfl,rfl,rfl,_,rfl,_,_,rfl,congrArg i64 (by omega),rfl⟩,trivial⟩ rfl⟩
  rintro⟨i,l⟩ ⟨i1,i2,i3⟩
  simp only [] at i1 i2 i3
  refine QAD (fun j1=>?_) (fun j1=>?_)
  rotate_left
  ·have j1:¬ (i:Int)<(ar.length:Nat):=j1
   rw [List.drop_eq_nil_of_le (by omega),List.foldlM_nil] at i3
   exact⟨[],[],[], .returned (vB true),lfH l,rfl,sk,sk,by rw [<- i3];exact⟨rfl,rfl⟩⟩
  have j1:(i:Int)<(ar.length:Nat):=j1
  have hi:i<ar.length:=by omega
  rw [qE9 cd0 hi,List.foldlM_cons] at i3
  have hbx:=qBS hb4 (qAJ cd0 hi)
  have hcell:=qDM hi
  rcases hx:ar.getD i cd0 with ⟨o',n',rl',vl',rf',st',ar'⟩
  rw [hx] at i3 hbx hcell
  refine⟨_,⟨by omega,(Cd.mk o' n' rl' vl' rf' st' ar').cells,hcell,rfl⟩,?_⟩
  refine⟨((p+1:Nat):Int),w6z,?_⟩
  have hrec:=ih (.mk o' n' rl' vl' rf' st' ar') l (p+1) hbx (by omega) (by omega)
  rcases hv:qAp d (.mk o' n' rl' vl' rf' st' ar') l with _ | l2
  ·rw [hv] at hrec i3
   refine hrec.holds.useT [] [] rfl (sk) (sk) fun e0 H0 hq=>?_
   obtain⟨rfl,rfl⟩:=hq
   refine⟨rfl,_,_,rfl,rfl,?_⟩
   exact⟨[],[],[], .returned (vB false),⟨1,[]⟩,rfl,sk,trivial,by rw [<- i3];exact⟨rfl,rfl⟩⟩
  ·have hle:=qB4 _ _ _ _ hv
   rw [hv] at hrec i3
   refine hrec.holds.useT [] [] rfl (sk) (sk) fun e0 H0 hq=>?_
   obtain⟨rfl,rfl⟩:=hq
   refine⟨rfl,_,⟨2,[(0,lfO l2),(1,cO ((Cd.mk o' n' rl' vl' rf' st' ar').cells.map .p))]⟩,rfl,rfl,?_⟩
   refine⟨_,w6z,?_⟩
   exact⟨(i+1,l2),⟨by simp only [];omega,by simp only [];omega,i3⟩,qAC [] [] [] rfl (sk) (sk) rfl,by show ar.length - (i+1)<ar.length - i;omega⟩
 have o3:¬ op=3:=o3
 refine QAD (fun o4=>?_) (fun o4=>?_)
 ·have o4:op=4:=o4
  by_cases r1:qBp r=true
  rotate_left
  ·rw [Bool.not_eq_true] at r1
   rw [r1] at hRf
   refine hRf.eq rfl ?_
   exact⟨[],[],[], .returned (vB false),⟨1,[]⟩,rfl,sk,trivial,by rw [hno (by simp [qAb,qAc,qAT, *])];exact⟨rfl,rfl⟩⟩
  rw [r1] at hRf
  refine hRf.eq rfl ?_
  by_cases r2:qBm n=true
  rotate_left
  ·rw [Bool.not_eq_true] at r2
   rw [r2] at hNn
   refine hNn.eq rfl ?_
   exact⟨[],[],[], .returned (vB false),⟨1,[]⟩,rfl,sk,trivial,by rw [hno (by simp [qAb,qAc,qAT, *])];exact⟨rfl,rfl⟩⟩
  rw [r2] at hNn
  refine hNn.eq rfl ?_
  refine And.intro (fun r3=>?_) (fun r3=>?_)
  rotate_left
  ·have r3:¬ rel=0:=r3
   exact⟨[],[],[], .returned (vB false),⟨1,[]⟩,rfl,sk,trivial,by rw [hno (by simp [qAb,qAc,qAT, *])];exact⟨rfl,rfl⟩⟩
  have r3:rel=0:=r3
  refine And.intro (fun r4=>?_) (fun r4=>?_)
  rotate_left
  ·have r4:¬ val=0:=r4
   exact⟨[],[],[], .returned (vB false),⟨1,[]⟩,rfl,sk,trivial,by rw [hno (by simp [qAb,qAc,qAT, *])];exact⟨rfl,rfl⟩⟩
  have r4:val=0:=r4
  refine And.intro (fun r5=>?_) (fun r5=>?_)
  rotate_left
  ·have r5:¬ ((st.map i64).length:Int)=0:=r5
   have r5:¬ st=[]:=fun e=>r5 (by rw [e];rfl)
   exact⟨[],[],[], .returned (vB false),⟨1,[]⟩,rfl,sk,trivial,by rw [hno (by simp [qAb,qAc,qAT, *])];exact⟨rfl,rfl⟩⟩
  have r5:((st.map i64).length:Int)=0:=r5
  have r5:st=[]:=by rw [List.length_map] at r5;exact List.length_eq_zero_iff.1 (by omega)
  by_cases hk:ar.length=0
  rotate_left
  ·refine And.intro (fun h=>absurd (show((ar.map Cd.cells).length:Int)=0 from h) (by rw [List.length_map];omega)) (fun _=>?_)
   exact⟨[],[],[], .returned (vB false),⟨1,[]⟩,rfl,sk,trivial,by rw [hno (by simp [qAb,qAc, *])];exact⟨rfl,rfl⟩⟩
  refine And.intro (fun _=>?_) (fun h=>absurd (show((ar.map Cd.cells).length:Int)=0 by rw [List.length_map];omega) h)
  refine And.intro (fun h=>absurd (show(0:Int)<0 from h) (by decide)) (fun _=>?_)
  refine⟨Nat × Nat,fun x=>[(1, .p (i64 p)),(2, .ptr 0 0 0),(143, .p (cds ar)),(144, .p (i64 ar.length)),(145, .p (i64 x.1))],fun x=>lfH x.2,fun x=>x.1<=ar.length/\x.2<=1000/\(ar.drop x.1).foldlM (fun l c=>qAp d c l) x.2=R,fun x=>ar.length - x.1,?_,?_⟩
  ·exact⟨(0,m),⟨Nat.zero_le _,by simp only [];omega,hyes (by first | (simp [qAb,qAc, *];done) | simp [qAb,qAc,qAT, *])⟩,qAC [] [] [] rfl ⟨rfl,⟨rfl,rfl⟩,rfl,congrArg (fun n:Nat=>i64 n) (List.length_map ..).symm,rfl,trivial⟩ ⟨⟨_,rfl,rfl,rfl,_,rfl,_,_,rfl,congrArg i64 (by omega),rfl⟩,trivial⟩ rfl⟩
  rintro⟨i,l⟩ ⟨i1,i2,i3⟩
  simp only [] at i1 i2 i3
  refine QAD (fun j1=>?_) (fun j1=>?_)
  rotate_left
  ·have j1:¬ (i:Int)<(ar.length:Nat):=j1
   rw [List.drop_eq_nil_of_le (by omega),List.foldlM_nil] at i3
   exact⟨[],[],[], .returned (vB true),lfH l,rfl,sk,sk,by rw [<- i3];exact⟨rfl,rfl⟩⟩
  have j1:(i:Int)<(ar.length:Nat):=j1
  have hi:i<ar.length:=by omega
  rw [qE9 cd0 hi,List.foldlM_cons] at i3
  have hbx:=qBS hb4 (qAJ cd0 hi)
  have hcell:=qDM hi
  rcases hx:ar.getD i cd0 with ⟨o',n',rl',vl',rf',st',ar'⟩
  rw [hx] at i3 hbx hcell
  refine⟨_,⟨by omega,(Cd.mk o' n' rl' vl' rf' st' ar').cells,hcell,rfl⟩,?_⟩
  refine⟨((p+1:Nat):Int),w6z,?_⟩
  have hrec:=ih (.mk o' n' rl' vl' rf' st' ar') l (p+1) hbx (by omega) (by omega)
  rcases hv:qAp d (.mk o' n' rl' vl' rf' st' ar') l with _ | l2
  ·rw [hv] at hrec i3
   refine hrec.holds.useT [] [] rfl (sk) (sk) fun e0 H0 hq=>?_
   obtain⟨rfl,rfl⟩:=hq
   refine⟨rfl,_,_,rfl,rfl,?_⟩
   exact⟨[],[],[], .returned (vB false),⟨1,[]⟩,rfl,sk,trivial,by rw [<- i3];exact⟨rfl,rfl⟩⟩
  ·have hle:=qB4 _ _ _ _ hv
   rw [hv] at hrec i3
   refine hrec.holds.useT [] [] rfl (sk) (sk) fun e0 H0 hq=>?_
   obtain⟨rfl,rfl⟩:=hq
   refine⟨rfl,_,⟨2,[(0,lfO l2),(1,cO ((Cd.mk o' n' rl' vl' rf' st' ar').cells.map .p))]⟩,rfl,rfl,?_⟩
   refine⟨_,w6z,?_⟩
   exact⟨(i+1,l2),⟨by simp only [];omega,by simp only [];omega,i3⟩,qAC [] [] [] rfl (sk) (sk) rfl,by show ar.length - (i+1)<ar.length - i;omega⟩
 have o4:¬ op=4:=o4
 refine QAD (fun o5=>?_) (fun o5=>?_)
 ·have o5:op=5:=o5
  by_cases r1:qBp r=true
  rotate_left
  ·rw [Bool.not_eq_true] at r1
   rw [r1] at hRf
   refine hRf.eq rfl ?_
   exact⟨[],[],[], .returned (vB false),⟨1,[]⟩,rfl,sk,trivial,by rw [hno (by simp [qAb,qAc,qAT, *])];exact⟨rfl,rfl⟩⟩
  rw [r1] at hRf
  refine hRf.eq rfl ?_
  refine And.intro (fun r2=>?_) (fun r2=>?_)
  rotate_left
  ·have r2:¬ n=0:=r2
   exact⟨[],[],[], .returned (vB false),⟨1,[]⟩,rfl,sk,trivial,by rw [hno (by simp [qAb,qAc,qAT, *])];exact⟨rfl,rfl⟩⟩
  have r2:n=0:=r2
  refine And.intro (fun r3=>?_) (fun r3=>?_)
  rotate_left
  ·have r3:¬ rel=0:=r3
   exact⟨[],[],[], .returned (vB false),⟨1,[]⟩,rfl,sk,trivial,by rw [hno (by simp [qAb,qAc,qAT, *])];exact⟨rfl,rfl⟩⟩
  have r3:rel=0:=r3
  refine And.intro (fun r4=>?_) (fun r4=>?_)
  rotate_left
  ·have r4:¬ val=0:=r4
   exact⟨[],[],[], .returned (vB false),⟨1,[]⟩,rfl,sk,trivial,by rw [hno (by simp [qAb,qAc,qAT, *])];exact⟨rfl,rfl⟩⟩
  have r4:val=0:=r4
  by_cases r5:qHO st=true
  rotate_left
  ·rw [Bool.not_eq_true] at r5
   rw [r5] at hS
   refine hS.eq rfl ?_
   exact⟨[],[],[], .returned (vB false),⟨1,[]⟩,rfl,sk,trivial,by rw [hno (by simp [qAb,qAc,qAT, *])];exact⟨rfl,rfl⟩⟩
  rw [r5] at hS
  refine hS.eq rfl ?_
  by_cases hk:ar.length=0
  rotate_left
  ·refine And.intro (fun h=>absurd (show((ar.map Cd.cells).length:Int)=0 from h) (by rw [List.length_map];omega)) (fun _=>?_)
   exact⟨[],[],[], .returned (vB false),⟨1,[]⟩,rfl,sk,trivial,by rw [hno (by simp [qAb,qAc, *])];exact⟨rfl,rfl⟩⟩
  refine And.intro (fun _=>?_) (fun h=>absurd (show((ar.map Cd.cells).length:Int)=0 by rw [List.length_map];omega) h)
  refine And.intro (fun h=>absurd (show(0:Int)<0 from h) (by decide)) (fun _=>?_)
  refine⟨Nat × Nat,fun x=>[(1, .p (i64 p)),(2, .ptr 0 0 0),(143, .p (cds ar)),(144, .p (i64 ar.length)),(145, .p (i64 x.1))],fun x=>lfH x.2,fun x=>x.1<=ar.length/\x.2<=1000/\(ar.drop x.1).foldlM (fun l c=>qAp d c l) x.2=R,fun x=>ar.length - x.1,?_,?_⟩
  ·exact⟨(0,m),⟨Nat.zero_le _,by simp only [];omega,hyes (by first | (simp [qAb,qAc, *];done) | simp [qAb,qAc,qAT, *])⟩,qAC [] [] [] rfl ⟨rfl,⟨rfl,rfl⟩,rfl,congrArg (fun n:Nat=>i64 n) (List.length_map ..).symm,rfl,trivial⟩ ⟨⟨_,rfl,rfl,rfl,_,rfl,_,_,rfl,congrArg i64 (by omega),rfl⟩,trivial⟩ rfl⟩
  rintro⟨i,l⟩ ⟨i1,i2,i3⟩
  simp only [] at i1 i2 i3
  refine QAD (fun j1=>?_) (fun j1=>?_)
  rotate_left
  ·have j1:¬ (i:Int)<(ar.length:Nat):=j1
   rw [List.drop_eq_nil_of_le (by omega),List.foldlM_nil] at i3
   exact⟨[],[],[], .returned (vB true),lfH l,rfl,sk,sk,by rw [<- i3];exact⟨rfl,rfl⟩⟩
  have j1:(i:Int)<(ar.length:Nat):=j1
  have hi:i<ar.length:=by omega
  rw [qE9 cd0 hi,List.foldlM_cons] at i3
  have hbx:=qBS hb4 (qAJ cd0 hi)
  have hcell:=qDM hi
  rcases hx:ar.getD i cd0 with ⟨o',n',rl',vl',rf',st',ar'⟩
  rw [hx] at i3 hbx hcell
  refine⟨_,⟨by omega,(Cd.mk o' n' rl' vl' rf' st' ar').cells,hcell,rfl⟩,?_⟩
  refine⟨((p+1:Nat):Int),w6z,?_⟩
  have hrec:=ih (.mk o' n' rl' vl' rf' st' ar') l (p+1) hbx (by omega) (by omega)
  rcases hv:qAp d (.mk o' n' rl' vl' rf' st' ar') l with _ | l2
  ·rw [hv] at hrec i3
   refine hrec.holds.useT [] [] rfl (sk) (sk) fun e0 H0 hq=>?_
   obtain⟨rfl,rfl⟩:=hq
   refine⟨rfl,_,_,rfl,rfl,?_⟩
   exact⟨[],[],[], .returned (vB false),⟨1,[]⟩,rfl,sk,trivial,by rw [<- i3];exact⟨rfl,rfl⟩⟩
  ·have hle:=qB4 _ _ _ _ hv
   rw [hv] at hrec i3
   refine hrec.holds.useT [] [] rfl (sk) (sk) fun e0 H0 hq=>?_
   obtain⟨rfl,rfl⟩:=hq
   refine⟨rfl,_,⟨2,[(0,lfO l2),(1,cO ((Cd.mk o' n' rl' vl' rf' st' ar').cells.map .p))]⟩,rfl,rfl,?_⟩
   refine⟨_,w6z,?_⟩
   exact⟨(i+1,l2),⟨by simp only [];omega,by simp only [];omega,i3⟩,qAC [] [] [] rfl (sk) (sk) rfl,by show ar.length - (i+1)<ar.length - i;omega⟩
 have o5:¬ op=5:=o5
 refine QAD (fun o6=>?_) (fun o6=>?_)
 ·have o6:op=6:=o6
  by_cases r1:qBp r=true
  rotate_left
  ·rw [Bool.not_eq_true] at r1
   rw [r1] at hRf
   refine hRf.eq rfl ?_
   exact⟨[],[],[], .returned (vB false),⟨1,[]⟩,rfl,sk,trivial,by rw [hno (by simp [qAb,qAc,qAT, *])];exact⟨rfl,rfl⟩⟩
  rw [r1] at hRf
  refine hRf.eq rfl ?_
  refine And.intro (fun r2=>?_) (fun r2=>?_)
  rotate_left
  ·have r2:¬ r.mode=3:=r2
   exact⟨[],[],[], .returned (vB false),⟨1,[]⟩,rfl,sk,trivial,by rw [hno (by simp [qAb,qAc,qAT, *])];exact⟨rfl,rfl⟩⟩
  have r2:r.mode=3:=r2
  by_cases r3:qBm n=true
  rotate_left
  ·rw [Bool.not_eq_true] at r3
   rw [r3] at hNn
   refine hNn.eq rfl ?_
   exact⟨[],[],[], .returned (vB false),⟨1,[]⟩,rfl,sk,trivial,by rw [hno (by simp [qAb,qAc,qAT, *])];exact⟨rfl,rfl⟩⟩
  rw [r3] at hNn
  refine hNn.eq rfl ?_
  by_cases r4:qBm val=true
  rotate_left
  ·rw [Bool.not_eq_true] at r4
   rw [r4] at hNv
   refine hNv.eq rfl ?_
   exact⟨[],[],[], .returned (vB false),⟨1,[]⟩,rfl,sk,trivial,by rw [hno (by simp [qAb,qAc,qAT, *])];exact⟨rfl,rfl⟩⟩
  rw [r4] at hNv
  refine hNv.eq rfl ?_
  refine And.intro (fun r5=>?_) (fun r5=>?_)
  ·have r5:rel<1:=r5
   have r5:¬ 1<=rel:=by omega
   exact⟨[],[],[], .returned (vB false),⟨1,[]⟩,rfl,sk,trivial,by rw [hno (by simp [qAb,qAc,qAT, *])];exact⟨rfl,rfl⟩⟩
  have r5:¬ rel<1:=r5
  have r5:1<=rel:=by omega
  refine And.intro (fun r6=>?_) (fun r6=>?_)
  ·have r6:(4:Int)<rel:=r6
   have r6:¬ rel<=4:=by omega
   exact⟨[],[],[], .returned (vB false),⟨1,[]⟩,rfl,sk,trivial,by rw [hno (by simp [qAb,qAc,qAT, *])];exact⟨rfl,rfl⟩⟩
  have r6:¬ (4:Int)<rel:=r6
  have r6:rel<=4:=by omega
  refine And.intro (fun r9=>?_) (fun r9=>?_)
  rotate_left
  ·have r9:¬ ((st.map i64).length:Int)=0:=r9
   have r9:¬ st=[]:=fun e=>r9 (by rw [e];rfl)
   exact⟨[],[],[], .returned (vB false),⟨1,[]⟩,rfl,sk,trivial,by rw [hno (by simp [qAb,qAc,qAT, *])];exact⟨rfl,rfl⟩⟩
  have r9:((st.map i64).length:Int)=0:=r9
  have r9:st=[]:=by rw [List.length_map] at r9;exact List.length_eq_zero_iff.1 (by omega)
  by_cases hk:ar.length=0
  rotate_left
  ·refine And.intro (fun h=>absurd (show((ar.map Cd.cells).length:Int)=0 from h) (by rw [List.length_map];omega)) (fun _=>?_)
   exact⟨[],[],[], .returned (vB false),⟨1,[]⟩,rfl,sk,trivial,by rw [hno (by simp [qAb,qAc, *])];exact⟨rfl,rfl⟩⟩
  refine And.intro (fun _=>?_) (fun h=>absurd (show((ar.map Cd.cells).length:Int)=0 by rw [List.length_map];omega) h)
  refine And.intro (fun h=>absurd (show(0:Int)<0 from h) (by decide)) (fun _=>?_)
  refine⟨Nat × Nat,fun x=>[(1, .p (i64 p)),(2, .ptr 0 0 0),(143, .p (cds ar)),(144, .p (i64 ar.length)),(145, .p (i64 x.1))],fun x=>lfH x.2,fun x=>x.1<=ar.length/\x.2<=1000/\(ar.drop x.1).foldlM (fun l c=>qAp d c l) x.2=R,fun x=>ar.length - x.1,?_,?_⟩
  ·exact⟨(0,m),⟨Nat.zero_le _,by simp only [];omega,hyes (by first | (simp [qAb,qAc, *];done) | simp [qAb,qAc,qAT, *])⟩,qAC [] [] [] rfl ⟨rfl,⟨rfl,rfl⟩,rfl,congrArg (fun n:Nat=>i64 n) (List.length_map ..).symm,rfl,trivial⟩ ⟨⟨_,rfl,rfl,rfl,_,rfl,_,_,rfl,congrArg i64 (by omega),rfl⟩,trivial⟩ rfl⟩
  rintro⟨i,l⟩ ⟨i1,i2,i3⟩
  simp only [] at i1 i2 i3
  refine QAD (fun j1=>?_) (fun j1=>?_)
  rotate_left
  ·have j1:¬ (i:Int)<(ar.length:Nat):=j1
   rw [List.drop_eq_nil_of_le (by omega),List.foldlM_nil] at i3
   exact⟨[],[],[], .returned (vB true),lfH l,rfl,sk,sk,by rw [<- i3];exact⟨rfl,rfl⟩⟩
  have j1:(i:Int)<(ar.length:Nat):=j1
  have hi:i<ar.length:=by omega
  rw [qE9 cd0 hi,List.foldlM_cons] at i3
  have hbx:=qBS hb4 (qAJ cd0 hi)
  have hcell:=qDM hi
  rcases hx:ar.getD i cd0 with ⟨o',n',rl',vl',rf',st',ar'⟩
  rw [hx] at i3 hbx hcell
  refine⟨_,⟨by omega,(Cd.mk o' n' rl' vl' rf' st' ar').cells,hcell,rfl⟩,?_⟩
  refine⟨((p+1:Nat):Int),w6z,?_⟩
  have hrec:=ih (.mk o' n' rl' vl' rf' st' ar') l (p+1) hbx (by omega) (by omega)
  rcases hv:qAp d (.mk o' n' rl' vl' rf' st' ar') l with _ | l2
  ·rw [hv] at hrec i3
   refine hrec.holds.useT [] [] rfl (sk) (sk) fun e0 H0 hq=>?_
   obtain⟨rfl,rfl⟩:=hq
   refine⟨rfl,_,_,rfl,rfl,?_⟩
   exact⟨[],[],[], .returned (vB false),⟨1,[]⟩,rfl,sk,trivial,by rw [<- i3];exact⟨rfl,rfl⟩⟩
  ·have hle:=qB4 _ _ _ _ hv
   rw [hv] at hrec i3
   refine hrec.holds.useT [] [] rfl (sk) (sk) fun e0 H0 hq=>?_
   obtain⟨rfl,rfl⟩:=hq
   refine⟨rfl,_,⟨2,[(0,lfO l2),(1,cO ((Cd.mk o' n' rl' vl' rf' st' ar').cells.map .p))]⟩,rfl,rfl,?_⟩
   refine⟨_,w6z,?_⟩
   exact⟨(i+1,l2),⟨by simp only [];omega,by simp only [];omega,i3⟩,qAC [] [] [] rfl (sk) (sk) rfl,by show ar.length - (i+1)<ar.length - i;omega⟩
 have o6:¬ op=6:=o6
 refine QAD (fun o7=>?_) (fun o7=>?_)
 ·have o7:op=7:=o7
  by_cases hk:ar.length=1
  rotate_left
  ·refine And.intro (fun h=>absurd (show((ar.map Cd.cells).length:Int)=1 from h) (by rw [List.length_map];omega)) (fun _=>?_)
   exact⟨[],[],[], .returned (vB false),⟨1,[]⟩,rfl,sk,trivial,by rw [hno (by simp [qAb,qAc, *])];exact⟨rfl,rfl⟩⟩
  refine And.intro (fun _=>?_) (fun h=>absurd (show((ar.map Cd.cells).length:Int)=1 by rw [List.length_map];omega) h)
  refine And.intro (fun _=>?_) (fun h=>absurd (show(0:Int)<1 by decide) h)
  by_cases hp:qA0 n rel val r st=true
  rotate_left
  ·rw [Bool.not_eq_true] at hp
   rw [hp] at hP
   refine hP.eq rfl ?_
   exact⟨[],[],[], .returned (vB false),⟨1,[]⟩,rfl,sk,trivial,by rw [hno (by simp [qAb,qAc, *])];exact⟨rfl,rfl⟩⟩
  rw [hp] at hP
  refine hP.eq rfl ?_
  refine⟨Nat × Nat,fun x=>[(1, .p (i64 p)),(2, .ptr 0 0 0),(143, .p (cds ar)),(144, .p (i64 ar.length)),(145, .p (i64 x.1))],fun x=>lfH x.2,fun x=>x.1<=ar.length/\x.2<=1000/\(ar.drop x.1).foldlM (fun l c=>qAp d c l) x.2=R,fun x=>ar.length - x.1,?_,?_⟩
  ·exact⟨(0,m),⟨Nat.zero_le _,by simp only [];omega,hyes (by first | (simp [qAb,qAc, *];done) | simp [qAb,qAc,qAT, *])⟩,qAC [] [] [] rfl ⟨rfl,⟨rfl,rfl⟩,rfl,congrArg (fun n:Nat=>i64 n) (List.length_map ..).symm,rfl,trivial⟩ ⟨⟨_,rfl,rfl,rfl,_,rfl,_,_,rfl,congrArg i64 (by omega),rfl⟩,trivial⟩ rfl⟩
  rintro⟨i,l⟩ ⟨i1,i2,i3⟩
  simp only [] at i1 i2 i3
  refine QAD (fun j1=>?_) (fun j1=>?_)
  rotate_left
  ·have j1:¬ (i:Int)<(ar.length:Nat):=j1
   rw [List.drop_eq_nil_of_le (by omega),List.foldlM_nil] at i3
   exact⟨[],[],[], .returned (vB true),lfH l,rfl,sk,sk,by rw [<- i3];exact⟨rfl,rfl⟩⟩
  have j1:(i:Int)<(ar.length:Nat):=j1
  have hi:i<ar.length:=by omega
  rw [qE9 cd0 hi,List.foldlM_cons] at i3
  have hbx:=qBS hb4 (qAJ cd0 hi)
  have hcell:=qDM hi
  rcases hx:ar.getD i cd0 with ⟨o',n',rl',vl',rf',st',ar'⟩
  rw [hx] at i3 hbx hcell
  refine⟨_,⟨by omega,(Cd.mk o' n' rl' vl' rf' st' ar').cells,hcell,rfl⟩,?_⟩
  refine⟨((p+1:Nat):Int),w6z,?_⟩
  have hrec:=ih (.mk o' n' rl' vl' rf' st' ar') l (p+1) hbx (by omega) (by omega)
  rcases hv:qAp d (.mk o' n' rl' vl' rf' st' ar') l with _ | l2
  ·rw [hv] at hrec i3
   refine hrec.holds.useT [] [] rfl (sk) (sk) fun e0 H0 hq=>?_
   obtain⟨rfl,rfl⟩:=hq
   refine⟨rfl,_,_,rfl,rfl,?_⟩
   exact⟨[],[],[], .returned (vB false),⟨1,[]⟩,rfl,sk,trivial,by rw [<- i3];exact⟨rfl,rfl⟩⟩
  ·have hle:=qB4 _ _ _ _ hv
   rw [hv] at hrec i3
   refine hrec.holds.useT [] [] rfl (sk) (sk) fun e0 H0 hq=>?_
   obtain⟨rfl,rfl⟩:=hq
   refine⟨rfl,_,⟨2,[(0,lfO l2),(1,cO ((Cd.mk o' n' rl' vl' rf' st' ar').cells.map .p))]⟩,rfl,rfl,?_⟩
   refine⟨_,w6z,?_⟩
   exact⟨(i+1,l2),⟨by simp only [];omega,by simp only [];omega,i3⟩,qAC [] [] [] rfl (sk) (sk) rfl,by show ar.length - (i+1)<ar.length - i;omega⟩
 have o7:¬ op=7:=o7
 refine QAD (fun o8=>?_) (fun o8=>?_)
 ·have o8:op=8:=o8
  by_cases hk:ar.length=2
  rotate_left
  ·refine And.intro (fun h=>absurd (show((ar.map Cd.cells).length:Int)=2 from h) (by rw [List.length_map];omega)) (fun _=>?_)
   exact⟨[],[],[], .returned (vB false),⟨1,[]⟩,rfl,sk,trivial,by rw [hno (by simp [qAb,qAc, *])];exact⟨rfl,rfl⟩⟩
  refine And.intro (fun _=>?_) (fun h=>absurd (show((ar.map Cd.cells).length:Int)=2 by rw [List.length_map];omega) h)
  refine And.intro (fun _=>?_) (fun h=>absurd (show(0:Int)<2 by decide) h)
  by_cases hp:qA0 n rel val r st=true
  rotate_left
  ·rw [Bool.not_eq_true] at hp
   rw [hp] at hP
   refine hP.eq rfl ?_
   exact⟨[],[],[], .returned (vB false),⟨1,[]⟩,rfl,sk,trivial,by rw [hno (by simp [qAb,qAc, *])];exact⟨rfl,rfl⟩⟩
  rw [hp] at hP
  refine hP.eq rfl ?_
  refine⟨Nat × Nat,fun x=>[(1, .p (i64 p)),(2, .ptr 0 0 0),(143, .p (cds ar)),(144, .p (i64 ar.length)),(145, .p (i64 x.1))],fun x=>lfH x.2,fun x=>x.1<=ar.length/\x.2<=1000/\(ar.drop x.1).foldlM (fun l c=>qAp d c l) x.2=R,fun x=>ar.length - x.1,?_,?_⟩
  ·exact⟨(0,m),⟨Nat.zero_le _,by simp only [];omega,hyes (by first | (simp [qAb,qAc, *];done) | simp [qAb,qAc,qAT, *])⟩,qAC [] [] [] rfl ⟨rfl,⟨rfl,rfl⟩,rfl,congrArg (fun n:Nat=>i64 n) (List.length_map ..).symm,rfl,trivial⟩ ⟨⟨_,rfl,rfl,rfl,_,rfl,_,_,rfl,congrArg i64 (by omega),rfl⟩,trivial⟩ rfl⟩
  rintro⟨i,l⟩ ⟨i1,i2,i3⟩
  simp only [] at i1 i2 i3
  refine QAD (fun j1=>?_) (fun j1=>?_)
  rotate_left
  ·have j1:¬ (i:Int)<(ar.length:Nat):=j1
   rw [List.drop_eq_nil_of_le (by omega),List.foldlM_nil] at i3
   exact⟨[],[],[], .returned (vB true),lfH l,rfl,sk,sk,by rw [<- i3];exact⟨rfl,rfl⟩⟩
  have j1:(i:Int)<(ar.length:Nat):=j1
  have hi:i<ar.length:=by omega
  rw [qE9 cd0 hi,List.foldlM_cons] at i3
  have hbx:=qBS hb4 (qAJ cd0 hi)
  have hcell:=qDM hi
  rcases hx:ar.getD i cd0 with ⟨o',n',rl',vl',rf',st',ar'⟩
  rw [hx] at i3 hbx hcell
  refine⟨_,⟨by omega,(Cd.mk o' n' rl' vl' rf' st' ar').cells,hcell,rfl⟩,?_⟩
  refine⟨((p+1:Nat):Int),w6z,?_⟩
  have hrec:=ih (.mk o' n' rl' vl' rf' st' ar') l (p+1) hbx (by omega) (by omega)
  rcases hv:qAp d (.mk o' n' rl' vl' rf' st' ar') l with _ | l2
  ·rw [hv] at hrec i3
   refine hrec.holds.useT [] [] rfl (sk) (sk) fun e0 H0 hq=>?_
   obtain⟨rfl,rfl⟩:=hq
   refine⟨rfl,_,_,rfl,rfl,?_⟩
   exact⟨[],[],[], .returned (vB false),⟨1,[]⟩,rfl,sk,trivial,by rw [<- i3];exact⟨rfl,rfl⟩⟩
  ·have hle:=qB4 _ _ _ _ hv
   rw [hv] at hrec i3
   refine hrec.holds.useT [] [] rfl (sk) (sk) fun e0 H0 hq=>?_
   obtain⟨rfl,rfl⟩:=hq
   refine⟨rfl,_,⟨2,[(0,lfO l2),(1,cO ((Cd.mk o' n' rl' vl' rf' st' ar').cells.map .p))]⟩,rfl,rfl,?_⟩
   refine⟨_,w6z,?_⟩
   exact⟨(i+1,l2),⟨by simp only [];omega,by simp only [];omega,i3⟩,qAC [] [] [] rfl (sk) (sk) rfl,by show ar.length - (i+1)<ar.length - i;omega⟩
 have o8:¬ op=8:=o8
 refine QAD (fun o9=>?_) (fun o9=>?_)
 ·have o9:op=9:=o9
  by_cases hk:ar.length=2
  rotate_left
  ·refine And.intro (fun h=>absurd (show((ar.map Cd.cells).length:Int)=2 from h) (by rw [List.length_map];omega)) (fun _=>?_)
   exact⟨[],[],[], .returned (vB false),⟨1,[]⟩,rfl,sk,trivial,by rw [hno (by simp [qAb,qAc, *])];exact⟨rfl,rfl⟩⟩
  refine And.intro (fun _=>?_) (fun h=>absurd (show((ar.map Cd.cells).length:Int)=2 by rw [List.length_map];omega) h)
  refine And.intro (fun _=>?_) (fun h=>absurd (show(0:Int)<2 by decide) h)
  by_cases hp:qA0 n rel val r st=true
  rotate_left
  ·rw [Bool.not_eq_true] at hp
   rw [hp] at hP
   refine hP.eq rfl ?_
   exact⟨[],[],[], .returned (vB false),⟨1,[]⟩,rfl,sk,trivial,by rw [hno (by simp [qAb,qAc, *])];exact⟨rfl,rfl⟩⟩
  rw [hp] at hP
  refine hP.eq rfl ?_
  refine⟨Nat × Nat,fun x=>[(1, .p (i64 p)),(2, .ptr 0 0 0),(143, .p (cds ar)),(144, .p (i64 ar.length)),(145, .p (i64 x.1))],fun x=>lfH x.2,fun x=>x.1<=ar.length/\x.2<=1000/\(ar.drop x.1).foldlM (fun l c=>qAp d c l) x.2=R,fun x=>ar.length - x.1,?_,?_⟩
  ·exact⟨(0,m),⟨Nat.zero_le _,by simp only [];omega,hyes (by first | (simp [qAb,qAc, *];done) | simp [qAb,qAc,qAT, *])⟩,qAC [] [] [] rfl ⟨rfl,⟨rfl,rfl⟩,rfl,congrArg (fun n:Nat=>i64 n) (List.length_map ..).symm,rfl,trivial⟩ ⟨⟨_,rfl,rfl,rfl,_,rfl,_,_,rfl,congrArg i64 (by omega),rfl⟩,trivial⟩ rfl⟩
  rintro⟨i,l⟩ ⟨i1,i2,i3⟩
  simp only [] at i1 i2 i3
  refine QAD (fun j1=>?_) (fun j1=>?_)
  rotate_left
  ·have j1:¬ (i:Int)<(ar.length:Nat):=j1
   rw [List.drop_eq_nil_of_le (by omega),List.foldlM_nil] at i3
   exact⟨[],[],[], .returned (vB true),lfH l,rfl,sk,sk,by rw [<- i3];exact⟨rfl,rfl⟩⟩
  have j1:(i:Int)<(ar.length:Nat):=j1
  have hi:i<ar.length:=by omega
  rw [qE9 cd0 hi,List.foldlM_cons] at i3
  have hbx:=qBS hb4 (qAJ cd0 hi)
  have hcell:=qDM hi
  rcases hx:ar.getD i cd0 with ⟨o',n',rl',vl',rf',st',ar'⟩
  rw [hx] at i3 hbx hcell
  refine⟨_,⟨by omega,(Cd.mk o' n' rl' vl' rf' st' ar').cells,hcell,rfl⟩,?_⟩
  refine⟨((p+1:Nat):Int),w6z,?_⟩
  have hrec:=ih (.mk o' n' rl' vl' rf' st' ar') l (p+1) hbx (by omega) (by omega)
  rcases hv:qAp d (.mk o' n' rl' vl' rf' st' ar') l with _ | l2
  ·rw [hv] at hrec i3
   refine hrec.holds.useT [] [] rfl (sk) (sk) fun e0 H0 hq=>?_
   obtain⟨rfl,rfl⟩:=hq
   refine⟨rfl,_,_,rfl,rfl,?_⟩
   exact⟨[],[],[], .returned (vB false),⟨1,[]⟩,rfl,sk,trivial,by rw [<- i3];exact⟨rfl,rfl⟩⟩
  ·have hle:=qB4 _ _ _ _ hv
   rw [hv] at hrec i3
   refine hrec.holds.useT [] [] rfl (sk) (sk) fun e0 H0 hq=>?_
   obtain⟨rfl,rfl⟩:=hq
   refine⟨rfl,_,⟨2,[(0,lfO l2),(1,cO ((Cd.mk o' n' rl' vl' rf' st' ar').cells.map .p))]⟩,rfl,rfl,?_⟩
   refine⟨_,w6z,?_⟩
   exact⟨(i+1,l2),⟨by simp only [];omega,by simp only [];omega,i3⟩,qAC [] [] [] rfl (sk) (sk) rfl,by show ar.length - (i+1)<ar.length - i;omega⟩
 have o9:¬ op=9:=o9
 exact⟨[],[],[], .returned (vB false),⟨1,[]⟩,rfl,sk,trivial,by rw [hno (by simp [qAb,qAc,qAT, *])];exact⟨rfl,rfl⟩⟩
theorem qLQ:∀ d,d<=8->qYA d
 | 0,_=>by
  rintro⟨op,n,rel,val,r,st,ar⟩ left p hb hl hp9
  generalize hR:qAp 0 (.mk op n rel val r st ar) left=R
  rw [qAp] at hR
  refine qAA Tryz.func128 rfl rfl rfl ?_
  refine⟨(left:Int) - 1,w6z,?_⟩
  refine QAD (fun h1=>?_) (fun h1=>?_)
  ·exact⟨[],[],[], .returned (vB false),⟨1,[]⟩,rfl,sk,trivial,by rw [<- hR];exact⟨rfl,rfl⟩⟩
  ·refine And.intro (fun _=>?_) (fun h=>absurd (show(8:Int)<(p:Nat) by omega) h)
   exact⟨[],[],[], .returned (vB false),⟨1,[]⟩,rfl,sk,trivial,by rw [<- hR];exact⟨rfl,rfl⟩⟩
 | d+1,h=>qVL d (qLQ d (by omega))
set_option maxHeartbeats 4000000
def qGL (n:Int):Bool:=decide (-9999<=n) && decide (n<=9999)
def qCS (l:List Int):Bool:=decide (1<=l.length) && decide (l.length<=8) && l.all qGL
def qE8:Cd->Bool
 | .mk op n rel val r st ar=>decide (op=0) && qA0 n rel val r st && decide (ar.length=0)
def qBo:List Cs->Bool
 | []=>true
 | [c]=>qCS c.nums && qE8 c.cond
 | c::d::r=>qCS c.nums && (qAp 8 c.cond 30).isSome && qBo (d::r)
def qBG (l:List Cs):Bool:=decide (1<=l.length) && decide (l.length<=12) && qBo l
structure BigL (l:List Cs):Prop where
 len:l.length<=9223372036854775807
 cond:∀ c∈l,qCq c.cond
 nums:∀ c∈l,c.nums.length<=9223372036854775807
def cs0:Cs:=⟨cd0,[]⟩
theorem qKv {l:List Cs} {k:Nat} (h:k<l.length):(l.map Cs.cells)[k]?=some (l.getD k cs0).cells:=qEO cs0 h
theorem qEG {l:List Cs} {i:Nat} (h:i+1<l.length):qBo (l.drop i)=(qCS (l.getD i cs0).nums && (qAp 8 (l.getD i cs0).cond 30).isSome && qBo (l.drop (i+1))):=by
 rw [qE9 cs0 (by omega:i<l.length),qE9 cs0 h,qBo]
theorem qEH {l:List Cs} {i:Nat} (h:i+1=l.length):qBo (l.drop i)=(qCS (l.getD i cs0).nums && qE8 (l.getD i cs0).cond):=by
 rw [qE9 cs0 (by omega:i<l.length),List.drop_eq_nil_of_le (by omega),qBo]
def kO (c:Cs):AObj:=⟨qFA,false, .bx (c.cells.map .p)⟩
theorem qVR (l:List Cs) (hb:BigL l):Pure cx 82 [css l] (·=.ret [.bool (qBG l)]):=by
 refine qAB Tryz.func82 rfl rfl rfl ?_
 have hll:=hb.len
 have hm:(l.map Cs.cells).length=l.length:=List.length_map ..
 refine QAD (fun h1=>?_) (fun h1=>?_)
 ·have h1:((l.map Cs.cells).length:Int)<1:=h1
  rw [hm] at h1
  exact qAF _ rfl rfl (qAN (by rw [qBG,decide_eq_false (by omega)];rfl))
 have h1:¬ ((l.map Cs.cells).length:Int)<1:=h1
 rw [hm] at h1
 refine QAD (fun h2=>?_) (fun h2=>?_)
 ·have h2:(12:Int)<((l.map Cs.cells).length:Nat):=h2
  rw [hm] at h2
  exact qAF _ rfl rfl (qAN (by rw [qBG,decide_eq_false (show ¬ l.length<=12 by omega),Bool.and_false];rfl))
 have h2:¬ (12:Int)<((l.map Cs.cells).length:Nat):=h2
 rw [hm] at h2
 have hB0:qBG l=qBo (l.drop 0):=by rw [qBG,decide_eq_true (show 1<=l.length by omega),decide_eq_true (show l.length<=12 by omega)];rfl
 refine⟨Nat,fun i=>[(0, .p (css l)),(16, .p (css l)),(17, .p (i64 l.length)),(18, .p (i64 i))],fun _=>⟨0,[]⟩,fun i=>i<l.length/\qBG l=qBo (l.drop i),fun i=>l.length - i,?_,?_⟩
 ·exact⟨0,⟨by omega,hB0⟩,qCA rfl ⟨rfl,rfl,congrArg (fun n:Nat=>i64 n) hm.symm,rfl,trivial⟩ trivial rfl⟩
 rintro i ⟨i1,i2⟩
 refine QAD (fun j1=>?_) (fun j1=>?_)
 rotate_left
 ·exact absurd (show(i:Int)<(l.length:Nat) by omega) j1
 have hmem:=qAJ cs0 i1
 have hbc:=hb.cond _ hmem
 have hbn:=hb.nums _ hmem
 have hcell:=qKv i1
 have hstep:=fun h=>qEG (l:=l) (i:=i) h
 have hlast:=fun h=>qEH (l:=l) (i:=i) h
 rcases hx:l.getD i cs0 with ⟨⟨op,n,rel,val,r,st,ar⟩,nums⟩
 rw [hx] at hbc hbn hcell hstep hlast
 simp only [] at hbc hbn hstep hlast
 have hno:qCS nums=false->qBG l=false:=fun h=>by
  rw [i2]
  rcases Nat.lt_or_ge (i+1) l.length with h3 | h3
  ·rw [hstep h3,h];rfl
  ·rw [hlast (by omega),h];rfl
 have hnm:(nums.map i64).length=nums.length:=List.length_map ..
 refine⟨_,⟨by omega,(⟨.mk op n rel val r st ar,nums⟩:Cs).cells,hcell,rfl⟩,?_⟩
 refine QAD (fun j2=>?_) (fun j2=>?_)
 ·have j2:((nums.map i64).length:Int)<1:=j2
  rw [hnm] at j2
  exact qAF _ rfl rfl (qAN (hno (by rw [qCS,decide_eq_false (by omega)];rfl)).symm)
 have j2:¬ ((nums.map i64).length:Int)<1:=j2
 rw [hnm] at j2
 refine QAD (fun j3=>?_) (fun j3=>?_)
 ·have j3:(8:Int)<((nums.map i64).length:Nat):=j3
  rw [hnm] at j3
  exact qAF _ rfl rfl (qAN (hno (by rw [qCS,decide_eq_false (show ¬ nums.length<=8 by omega),Bool.and_false];rfl)).symm)
 have j3:¬ (8:Int)<((nums.map i64).length:Nat):=j3
 rw [hnm] at j3
 refine⟨Nat,fun k=>[(0, .p (css l)),(16, .p (css l)),(17, .p (i64 l.length)),(18, .p (i64 i)),(3, .p (i64 i)),(4, .ptr 0 0 0),(34, .p (ints nums)),(35, .p (i64 nums.length)),(36, .p (i64 k))],fun _=>⟨1,[(0,kO ⟨.mk op n rel val r st ar,nums⟩)]⟩,fun k=>k<=nums.length/\∀ x∈nums.take k,qGL x=true,fun k=>nums.length - k,?_,?_⟩
 ·exact⟨0,⟨Nat.zero_le _,by simp⟩,qAC [] [] [] rfl ⟨rfl,rfl,rfl,rfl,rfl,⟨rfl,rfl⟩,rfl,congrArg (fun n:Nat=>i64 n) hnm.symm,rfl,trivial⟩ (sk) rfl⟩
 rintro k ⟨k1,k2⟩
 refine QAD (fun m1=>?_) (fun m1=>?_)
 ·have m1:(k:Int)<(nums.length:Nat):=m1
  have hk:k<nums.length:=by omega
  refine⟨_,⟨by omega,i64 (nums.getD k 0),qEW hk,rfl⟩,?_⟩
  have bad:qGL (nums.getD k 0)=false->qBG l=false:=fun h=>hno (by
   have:nums.all qGL=false:=by
    rw [Bool.eq_false_iff]
    intro ha
    have:=List.all_eq_true.1 ha _ (qAJ 0 hk)
    rw [h] at this;cases this
   rw [qCS,this,Bool.and_false])
  refine QAD (fun m2=>?_) (fun m2=>?_)
  ·have m2:nums.getD k 0 < -9999:=m2
   exact qAF _ rfl rfl (qAN (bad (by rw [qGL,decide_eq_false (by omega)];rfl)).symm)
  have m2:¬ nums.getD k 0 < -9999:=m2
  refine QAD (fun m3=>?_) (fun m3=>?_)
  ·have m3:(9999:Int)<nums.getD k 0:=m3
   exact qAF _ rfl rfl (qAN (bad (by rw [qGL,decide_eq_false (show ¬ nums.getD k 0<=9999 by omega),Bool.and_false])).symm)
  have m3:¬ (9999:Int)<nums.getD k 0:=m3
  refine⟨_,w6z,?_⟩
  refine⟨k+1,⟨by omega,fun x hx=>?_⟩,qAC [] [] [] rfl (sk) (sk) rfl,by show nums.length - (k+1)<nums.length - k;omega⟩
  rw [qAX 0 hk] at hx
  rcases List.mem_append.1 hx with hx | hx
  ·exact k2 x hx
  ·rw [List.mem_singleton.1 hx,qGL,decide_eq_true (by omega),decide_eq_true (by omega)];rfl
 have m1:¬ (k:Int)<(nums.length:Nat):=m1
 have hnums:qCS nums=true:=by
  have:nums.all qGL=true:=by
   rw [List.all_eq_true]
   rw [qBa (by omega)] at k2
   exact k2
  rw [qCS,this,decide_eq_true (by omega),decide_eq_true (by omega)];rfl
 refine⟨((l.length - 1:Nat):Int),by show _=IntKind.i64.wrap (((l.map Cs.cells).length:Int) - 1);rw [hm,show(l.length:Int) - 1=((l.length - 1:Nat):Int) by omega];exact w6z,?_⟩
 refine QAD (fun m4=>?_) (fun m4=>?_)
 ·have m4:(i:Int)=((l.length - 1:Nat):Int):=m4
  have hT:=hlast (by omega)
  rw [<- i2,hnums,Bool.true_and] at hT
  have hP:=qQY op n rel val r st ar (by simp only [qCq] at hbc;exact hbc.2.1)
  refine QAD (fun p1=>?_) (fun p1=>?_)
  rotate_left
  ·have p1:¬ op=0:=p1
   exact qAF _ rfl rfl (qAN (by rw [hT,qE8,decide_eq_false p1];rfl))
  have p1:op=0:=p1
  by_cases p2:qA0 n rel val r st=true
  rotate_left
  ·rw [Bool.not_eq_true] at p2
   rw [p2] at hP
   refine hP.eq rfl ?_
   exact qAF _ rfl rfl (qAN (by rw [hT,qE8,p2,Bool.and_false];rfl))
  rw [p2] at hP
  refine hP.eq rfl ?_
  refine QAD (fun p3=>?_) (fun p3=>?_)
  ·have p3:((qBV ar).length:Int)=0:=p3
   rw [qBr,List.length_map] at p3
   exact qAF _ rfl rfl (qAN (by rw [hT,qE8,p2,decide_eq_true p1,decide_eq_true (show ar.length=0 by omega)];rfl))
  ·have p3:¬ ((qBV ar).length:Int)=0:=p3
   rw [qBr,List.length_map] at p3
   exact qAF _ rfl rfl (qAN (by rw [hT,qE8,decide_eq_false (show ¬ ar.length=0 by omega),Bool.and_false]))
 have m4:¬ (i:Int)=((l.length - 1:Nat):Int):=m4
 have hT:=hstep (by omega)
 rw [<- i2,hnums,Bool.true_and] at hT
 have hC:=qLQ 8 (Nat.le_refl _) (.mk op n rel val r st ar) 30 1 hbc (by omega) (by omega)
 rcases hv:qAp 8 (.mk op n rel val r st ar) 30 with _ | k2
 ·rw [hv] at hC hT
  refine hC.holds.useT [] [(0,1)] rfl (sk) (sk) fun e0 H0 hq=>?_
  obtain⟨rfl,rfl⟩:=hq
  refine⟨rfl,_,⟨2,[(0,kO ⟨.mk op n rel val r st ar,nums⟩)]⟩,rfl,rfl,?_⟩
  exact qAF _ rfl rfl (qAN (by rw [hT];rfl))
 ·rw [hv] at hC hT
  refine hC.holds.useT [] [(0,1)] rfl (sk) (sk) fun e0 H0 hq=>?_
  obtain⟨rfl,rfl⟩:=hq
  refine⟨rfl,_,⟨2,[(1,lfO k2),(0,kO ⟨.mk op n rel val r st ar,nums⟩)]⟩,rfl,rfl,?_⟩
  refine⟨_,w6z,?_⟩
  exact⟨i+1,⟨by omega,by rw [hT];rfl⟩,qAC [] [] [] rfl (sk) (sk) rfl,by show l.length - (i+1)<l.length - i;omega⟩
def qAs (d:De):Bool:=
 if d.kind=1 then decide (d.name=[]) && decide (d.plate=[]) && decide (d.refs.length=0) && decide (d.cases.length=0)
 else if d.kind=2 then qAo d.name && decide (d.plate=[]) && decide (d.refs.length=0) && decide (d.cases.length=0)
 else if d.kind=3 then qAo d.name && (decide (d.plate=[]) || qAo d.plate) && qBG d.cases
 else if d.kind=4 then qAo d.name && decide (d.plate=[]) && decide (d.cases.length=0)
 else if d.kind=5 then decide (d.n=0) && decide (d.name=[]) && decide (d.plate=[]) && qBG d.cases else false
def qBh (d:De):Bool:=qBm d.n && decide (d.refs.length<=8) && d.refs.all qBp && qAs d
def qBP (ds:List De):Bool:=decide (ds.length<=30) && ds.all qBh
def qRd (ds:List De):Int:=if qBP ds then 0 else 380
structure BigD (d:De):Prop where
 name:qKi d.name
 plate:qKi d.plate
 len:d.refs.length<=9223372036854775807
 refs:∀ r∈d.refs,BigR r
 cases:BigL d.cases
structure BigP (ds:List De):Prop where
 len:ds.length<=9223372036854775807
 decl:∀ d∈ds,BigD d
def de0:De:=⟨0,0,[],[],[],[]⟩
theorem qIW {l:List Rf} {k:Nat} (h:k<l.length):(l.map Rf.cells)[k]?=some (l.getD k rf0).cells:=qEO rf0 h
theorem qIJ {l:List De} {k:Nat} (h:k<l.length):(l.map De.cells)[k]?=some (l.getD k de0).cells:=qEO de0 h
theorem qLc {α:Type} {l:List α} {f:α->Bool} {k:Nat} (d:α) (h:k<l.length) (hf:f (l.getD k d)=false):l.all f=false:=by
 rw [Bool.eq_false_iff]
 intro ha
 have:=List.all_eq_true.1 ha _ (qAJ d h)
 rw [hf] at this;cases this
theorem qKV (d:De) (hb:BigD d):Pure cx 48 [d.pv] (·=.ret [.bool (qBh d)]):=by
 refine qAB Tryz.func48 rfl rfl rfl ?_
 have hN:=qEi d.n
 have hI:=qHU d.name hb.name
 have hJ:=qHU d.plate hb.plate
 have hC:=qVR d.cases hb.cases
 have hrl:=hb.len
 have hcl:=hb.cases.len
 have hm:(d.refs.map Rf.cells).length=d.refs.length:=List.length_map ..
 by_cases n1:qBm d.n=true
 rotate_left
 ·rw [Bool.not_eq_true] at n1
  rw [n1] at hN
  refine hN.eq rfl ?_
  exact qAF _ rfl rfl (qAN (by rw [qBh,n1];rfl))
 rw [n1] at hN
 refine hN.eq rfl ?_
 refine QAD (fun h2=>?_) (fun h2=>?_)
 ·have h2:(8:Int)<((d.refs.map Rf.cells).length:Nat):=h2
  rw [hm] at h2
  exact qAF _ rfl rfl (qAN (by rw [qBh,decide_eq_false (show ¬ d.refs.length<=8 by omega),Bool.and_false];rfl))
 have h2:¬ (8:Int)<((d.refs.map Rf.cells).length:Nat):=h2
 rw [hm] at h2
 refine⟨Nat,fun k=>[(1, .ptr 0 0 0),(16, .p (qBw d.refs)),(17, .p (i64 d.refs.length)),(18, .p (i64 k))],fun _=>⟨1,[(0,deO d)]⟩,fun k=>k<=d.refs.length/\∀ x∈d.refs.take k,qBp x=true,fun k=>d.refs.length - k,?_,?_⟩
 ·exact⟨0,⟨Nat.zero_le _,by simp⟩,qAC [] [] [] rfl ⟨⟨rfl,rfl⟩,rfl,congrArg (fun n:Nat=>i64 n) hm.symm,rfl,trivial⟩ (sk) rfl⟩
 rintro k ⟨k1,k2⟩
 refine QAD (fun m1=>?_) (fun m1=>?_)
 ·have m1:(k:Int)<(d.refs.length:Nat):=m1
  have hk:k<d.refs.length:=by omega
  refine⟨_,⟨by omega,(d.refs.getD k rf0).cells,qIW hk,rfl⟩,?_⟩
  have hR:=qHp (d.refs.getD k rf0) (hb.refs _ (qAJ rf0 hk))
  by_cases r1:qBp (d.refs.getD k rf0)=true
  rotate_left
  ·rw [Bool.not_eq_true] at r1
   rw [r1] at hR
   refine hR.eq rfl ?_
   exact qAF _ rfl rfl (qAN (by rw [qBh,qLc rf0 hk r1,Bool.and_false];rfl))
  rw [r1] at hR
  refine hR.eq rfl ?_
  refine⟨_,w6z,?_⟩
  refine⟨k+1,⟨by omega,fun x hx=>?_⟩,qAC [] [] [] rfl (sk) (sk) rfl,by show d.refs.length - (k+1)<d.refs.length - k;omega⟩
  rw [qAX rf0 hk] at hx
  rcases List.mem_append.1 hx with hx | hx
  ·exact k2 x hx
  ·rw [List.mem_singleton.1 hx];exact r1
 have m1:¬ (k:Int)<(d.refs.length:Nat):=m1
 rw [qBa (by omega)] at k2
 have hfin:qBh d=qAs d:=by rw [qBh,n1,decide_eq_true (show d.refs.length<=8 by omega),List.all_eq_true.2 k2];rfl
 clear k1 k2 m1
 refine QAD (fun o1=>?_) (fun o1=>?_)
 ·have o1:d.kind=1:=o1
  refine QAD (fun p1=>?_) (fun p1=>?_)
  rotate_left
  ·have p1:¬ d.name=[]:=p1
   exact qAF _ rfl rfl (qAN (by rw [hfin];simp [qAs, *]))
  have p1:d.name=[]:=p1
  refine QAD (fun p2=>?_) (fun p2=>?_)
  rotate_left
  ·have p2:¬ d.plate=[]:=p2
   exact qAF _ rfl rfl (qAN (by rw [hfin];simp [qAs, *]))
  have p2:d.plate=[]:=p2
  refine QAD (fun p3=>?_) (fun p3=>?_)
  rotate_left
  ·have p3:¬ ((d.refs.map Rf.cells).length:Int)=0:=p3
   rw [List.length_map] at p3
   have p3:¬ d.refs=[]:=fun e=>p3 (by rw [e];rfl)
   exact qAF _ rfl rfl (qAN (by rw [hfin];simp [qAs, *]))
  have p3:((d.refs.map Rf.cells).length:Int)=0:=p3
  rw [List.length_map] at p3
  have p3:d.refs=[]:=List.length_eq_zero_iff.1 (by omega)
  refine QAD (fun p4=>?_) (fun p4=>?_)
  rotate_left
  ·have p4:¬ ((d.cases.map Cs.cells).length:Int)=0:=p4
   rw [List.length_map] at p4
   have p4:¬ d.cases=[]:=fun e=>p4 (by rw [e];rfl)
   exact qAF _ rfl rfl (qAN (by rw [hfin];simp [qAs, *]))
  have p4:((d.cases.map Cs.cells).length:Int)=0:=p4
  rw [List.length_map] at p4
  have p4:d.cases=[]:=List.length_eq_zero_iff.1 (by omega)
  exact qAF _ rfl rfl (qAN (by rw [hfin];simp [qAs, *]))
 have o1:¬ d.kind=1:=o1
 refine QAD (fun o2=>?_) (fun o2=>?_)
 ·have o2:d.kind=2:=o2
  by_cases p1:qAo d.name=true
  rotate_left
  ·rw [Bool.not_eq_true] at p1
   rw [p1] at hI
   refine hI.eq rfl ?_
   exact qAF _ rfl rfl (qAN (by rw [hfin];simp [qAs, *]))
  rw [p1] at hI
  refine hI.eq rfl ?_
  refine QAD (fun p2=>?_) (fun p2=>?_)
  rotate_left
  ·have p2:¬ d.plate=[]:=p2
   exact qAF _ rfl rfl (qAN (by rw [hfin];simp [qAs, *]))
  have p2:d.plate=[]:=p2
  refine QAD (fun p3=>?_) (fun p3=>?_)
  rotate_left
  ·have p3:¬ ((d.refs.map Rf.cells).length:Int)=0:=p3
   rw [List.length_map] at p3
   have p3:¬ d.refs=[]:=fun e=>p3 (by rw [e];rfl)
   exact qAF _ rfl rfl (qAN (by rw [hfin];simp [qAs, *]))
  have p3:((d.refs.map Rf.cells).length:Int)=0:=p3
  rw [List.length_map] at p3
  have p3:d.refs=[]:=List.length_eq_zero_iff.1 (by omega)
  refine QAD (fun p4=>?_) (fun p4=>?_)
  rotate_left
  ·have p4:¬ ((d.cases.map Cs.cells).length:Int)=0:=p4
   rw [List.length_map] at p4
   have p4:¬ d.cases=[]:=fun e=>p4 (by rw [e];rfl)
   exact qAF _ rfl rfl (qAN (by rw [hfin];simp [qAs, *]))
  have p4:((d.cases.map Cs.cells).length:Int)=0:=p4
  rw [List.length_map] at p4
  have p4:d.cases=[]:=List.length_eq_zero_iff.1 (by omega)
  exact qAF _ rfl rfl (qAN (by rw [hfin];simp [qAs, *]))
 have o2:¬ d.kind=2:=o2
 refine QAD (fun o3=>?_) (fun o3=>?_)
 ·have o3:d.kind=3:=o3
  by_cases p1:qAo d.name=true
  rotate_left
  ·rw [Bool.not_eq_true] at p1
   rw [p1] at hI
   refine hI.eq rfl ?_
   exact qAF _ rfl rfl (qAN (by rw [hfin];simp [qAs, *]))
  rw [p1] at hI
  refine hI.eq rfl ?_
  refine QAD (fun p2=>?_) (fun p2=>?_)
  ·have p2:d.plate=[]:=p2
   refine hC.eq rfl ?_
   exact qAF _ rfl rfl (qAN (by rw [hfin];simp [qAs, *]))
  have p2:¬ d.plate=[]:=p2
  by_cases p3:qAo d.plate=true
  rotate_left
  ·rw [Bool.not_eq_true] at p3
   rw [p3] at hJ
   refine hJ.eq rfl ?_
   exact qAF _ rfl rfl (qAN (by rw [hfin];simp [qAs, *]))
  rw [p3] at hJ
  refine hJ.eq rfl ?_
  refine hC.eq rfl ?_
  exact qAF _ rfl rfl (qAN (by rw [hfin];simp [qAs, *]))
 have o3:¬ d.kind=3:=o3
 refine QAD (fun o4=>?_) (fun o4=>?_)
 ·have o4:d.kind=4:=o4
  by_cases p1:qAo d.name=true
  rotate_left
  ·rw [Bool.not_eq_true] at p1
   rw [p1] at hI
   refine hI.eq rfl ?_
   exact qAF _ rfl rfl (qAN (by rw [hfin];simp [qAs, *]))
  rw [p1] at hI
  refine hI.eq rfl ?_
  refine QAD (fun p2=>?_) (fun p2=>?_)
  rotate_left
  ·have p2:¬ d.plate=[]:=p2
   exact qAF _ rfl rfl (qAN (by rw [hfin];simp [qAs, *]))
  have p2:d.plate=[]:=p2
  refine QAD (fun p4=>?_) (fun p4=>?_)
  rotate_left
  ·have p4:¬ ((d.cases.map Cs.cells).length:Int)=0:=p4
   rw [List.length_map] at p4
   have p4:¬ d.cases=[]:=fun e=>p4 (by rw [e];rfl)
   exact qAF _ rfl rfl (qAN (by rw [hfin];simp [qAs, *]))
  have p4:((d.cases.map Cs.cells).length:Int)=0:=p4
  rw [List.length_map] at p4
  have p4:d.cases=[]:=List.length_eq_zero_iff.1 (by omega)
  exact qAF _ rfl rfl (qAN (by rw [hfin];simp [qAs, *]))
 have o4:¬ d.kind=4:=o4
 refine QAD (fun o5=>?_) (fun o5=>?_)
 ·have o5:d.kind=5:=o5
  refine QAD (fun p1=>?_) (fun p1=>?_)
  rotate_left
  ·have p1:¬ d.n=0:=p1
   exact qAF _ rfl rfl (qAN (by rw [hfin];simp [qAs, *]))
  have p1:d.n=0:=p1
  refine QAD (fun p2=>?_) (fun p2=>?_)
  rotate_left
  ·have p2:¬ d.name=[]:=p2
   exact qAF _ rfl rfl (qAN (by rw [hfin];simp [qAs, *]))
  have p2:d.name=[]:=p2
  refine QAD (fun p3=>?_) (fun p3=>?_)
  rotate_left
  ·have p3:¬ d.plate=[]:=p3
   exact qAF _ rfl rfl (qAN (by rw [hfin];simp [qAs, *]))
  have p3:d.plate=[]:=p3
  refine hC.eq rfl ?_
  exact qAF _ rfl rfl (qAN (by rw [hfin];simp [qAs, *]))
 have o5:¬ d.kind=5:=o5
 exact qAF _ rfl rfl (qAN (by rw [hfin];simp [qAs, *]))
theorem qJ7 (ds:List De) (hb:BigP ds):Pure cx 15 [qCT ds] (·=.ret [i64 (qRd ds)]):=by
 refine qAB Tryz.func15 rfl rfl rfl ?_
 have hl:=hb.len
 have hm:(ds.map De.cells).length=ds.length:=List.length_map ..
 have bad:qBP ds=false->qRd ds=380:=fun h=>by rw [qRd,h];rfl
 refine QAD (fun h2=>?_) (fun h2=>?_)
 ·have h2:(30:Int)<((ds.map De.cells).length:Nat):=h2
  rw [hm] at h2
  exact qAF _ rfl rfl (qDz (bad (by rw [qBP,decide_eq_false (show ¬ ds.length<=30 by omega)];rfl)).symm)
 have h2:¬ (30:Int)<((ds.map De.cells).length:Nat):=h2
 rw [hm] at h2
 refine⟨Nat,fun k=>[(10, .p (des ds)),(11, .p (i64 ds.length)),(12, .p (i64 k))],fun _=>⟨0,[]⟩,fun k=>k<=ds.length/\∀ x∈ds.take k,qBh x=true,fun k=>ds.length - k,?_,?_⟩
 ·exact⟨0,⟨Nat.zero_le _,by simp⟩,qAC [] [] [] rfl ⟨rfl,congrArg (fun n:Nat=>i64 n) hm.symm,rfl,trivial⟩ trivial rfl⟩
 rintro k ⟨k1,k2⟩
 refine QAD (fun m1=>?_) (fun m1=>?_)
 ·have m1:(k:Int)<(ds.length:Nat):=m1
  have hk:k<ds.length:=by omega
  refine⟨_,⟨by omega,(ds.getD k de0).cells,qIJ hk,rfl⟩,?_⟩
  have hR:=qKV (ds.getD k de0) (hb.decl _ (qAJ de0 hk))
  by_cases r1:qBh (ds.getD k de0)=true
  rotate_left
  ·rw [Bool.not_eq_true] at r1
   rw [r1] at hR
   refine hR.eq rfl ?_
   exact qAF _ rfl rfl (qDz (bad (by rw [qBP,qLc de0 hk r1,Bool.and_false])).symm)
  rw [r1] at hR
  refine hR.eq rfl ?_
  refine⟨_,w6z,?_⟩
  refine⟨k+1,⟨by omega,fun x hx=>?_⟩,qAC [] [] [] rfl (sk) trivial rfl,by show ds.length - (k+1)<ds.length - k;omega⟩
  rw [qAX de0 hk] at hx
  rcases List.mem_append.1 hx with hx | hx
  ·exact k2 x hx
  ·rw [List.mem_singleton.1 hx];exact r1
 have m1:¬ (k:Int)<(ds.length:Nat):=m1
 rw [qBa (by omega)] at k2
 exact qAF _ rfl rfl (qDz (by rw [qRd,qBP,decide_eq_true (show ds.length<=30 by omega),List.all_eq_true.2 k2];rfl))
theorem qUC:∀ {m:Nat} {xs:List PV},TyT Tryz.prog m 5 xs->∃ b:UInt8,xs=[u8 b]
 | 0,_,h=>h.elim
 | _+1,_,h=>qFK h
theorem qFD:∀ {m:Nat} {xs:List PV},TyT Tryz.prog m 3 xs->∃ n,xs=[i64 n]/\-9223372036854775808<=n/\n<=9223372036854775807
 | 0,_,h=>h.elim
 | _+1,_,h=>qV0 h
theorem qKo:∀ {m:Nat} {xs:List PV},TyT Tryz.prog m 9 xs->∃ s,xs=[.str s]/\s.length<=9223372036854775807
 | 0,_,h=>h.elim
 | _+1,_,h=>qVz h
theorem qPl:∀ {m:Nat} {xs:List PV},TyT Tryz.prog m 34 xs->∃ l:List Int,xs=[ints l]/\l.length<=9223372036854775807
 | 0,_,h=>h.elim
 | m+1,xs,h=>by
  have hp:partsOf Tryz.prog 34=none:=by simp [partsOf,Tryz.underlying34]
  have hc:Tryz.prog.cellsOf 3=1:=by kernel_rfl
  rw [TyT] at h
  simp only [hp,Tryz.underlying34,hc] at h
  obtain⟨ys,rfl,hl,hy⟩:=h
  obtain⟨l,rfl,_⟩:=qLB (f:=i64) (P:=fun _=>True) fun y hy'=>by
   obtain⟨b,hb,_⟩:=qFD (hy y hy')
   simp at hb
   exact⟨b,hb,trivial⟩
  exact⟨l,rfl,by rw [List.length_map] at hl;exact hl⟩
theorem qPk:∀ {m:Nat} {xs:List PV},TyT Tryz.prog m qR4 xs->∃ r:Rf,xs=r.cells/\BigR r
 | 0,_,h=>h.elim
 | m+1,xs,h=>by
  have hp:partsOf Tryz.prog qR4=some [(9,0),(3,1),(9,2),(3,3)]:=by kernel_rfl
  rw [TyT] at h
  simp only [hp] at h
  obtain⟨x1,_,rfl,_,h1,x2,_,rfl,_,h2,x3,_,rfl,_,h3,x4,_,rfl,_,h4,rfl⟩:=h
  obtain⟨a,rfl,ha⟩:=qKo h1
  obtain⟨b,rfl,_⟩:=qFD h2
  obtain⟨c,rfl,hc⟩:=qKo h3
  obtain⟨d,rfl,_⟩:=qFD h4
  exact⟨⟨a,b,c,d⟩,rfl,ha,hc⟩
theorem qUD:∀ {m:Nat} {xs:List PV},TyT Tryz.prog m 77 xs->∃ l:List Rf,xs=[qBw l]/\l.length<=9223372036854775807/\∀ r∈l,BigR r
 | 0,_,h=>h.elim
 | m+1,xs,h=>by
  have hp:partsOf Tryz.prog 77=none:=by simp [partsOf,Tryz.underlying77]
  have hc:Tryz.prog.cellsOf qR4=4:=by kernel_rfl
  rw [TyT] at h
  simp only [hp,Tryz.underlying77,hc] at h
  obtain⟨ys,rfl,hn,hy⟩:=h
  obtain⟨l,rfl,hl⟩:=qC6 (f:=Rf.cells) (P:=BigR) fun y hy'=>qPk (hy y hy')
  rw [List.length_map] at hn
  exact⟨l,rfl,hn,hl⟩
theorem qOK:∀ {l:List Cd},(∀ c∈l,qCq c)->qIg l
 | [],_=>by simp only [qIg]
 | c::l,h=>by
  simp only [qIg]
  exact⟨h c (List.mem_cons_self ..),qOK fun x hx=>h x (List.mem_cons_of_mem _ hx)⟩
theorem qLq:∀ (m:Nat) {xs:List PV},TyT Tryz.prog m qM2 xs->∃ c:Cd,xs=c.cells/\qCq c
 | 0,_,h=>h.elim
 | 1,xs,h=>by
  have hp:partsOf Tryz.prog qM2=some [(3,0),(3,1),(3,2),(3,3),(qR4,4),(34,8),(35,9)]:=by kernel_rfl
  rw [TyT] at h
  simp only [hp] at h
  obtain⟨x1,_,rfl,_,h1,_⟩:=h
  exact h1.elim
 | m+2,xs,h=>by
  have hp:partsOf Tryz.prog qM2=some [(3,0),(3,1),(3,2),(3,3),(qR4,4),(34,8),(35,9)]:=by kernel_rfl
  rw [TyT] at h
  simp only [hp] at h
  obtain⟨x1,_,rfl,_,h1,x2,_,rfl,_,h2,x3,_,rfl,_,h3,x4,_,rfl,_,h4,x5,_,rfl,_,h5,x6,_,rfl,_,h6,x7,_,rfl,_,h7,rfl⟩:=h
  obtain⟨a,rfl,_⟩:=qFD h1
  obtain⟨b,rfl,_⟩:=qFD h2
  obtain⟨c,rfl,_⟩:=qFD h3
  obtain⟨d,rfl,_⟩:=qFD h4
  obtain⟨r,rfl,hr⟩:=qPk h5
  obtain⟨s,rfl,hs⟩:=qPl h6
  have hp2:partsOf Tryz.prog 35=none:=by simp [partsOf,Tryz.underlying35]
  have hc2:Tryz.prog.cellsOf qM2=10:=by kernel_rfl
  rw [TyT] at h7
  simp only [hp2,Tryz.underlying35,hc2] at h7
  obtain⟨ys,rfl,hn,hy⟩:=h7
  obtain⟨l,rfl,hl⟩:=qC6 (f:=Cd.cells) (P:=qCq) fun y hy'=>qLq m (hy y hy')
  rw [List.length_map] at hn
  refine⟨.mk a b c d r s l,by rw [Cd.cells,qBr];rfl,?_⟩
  simp only [qCq]
  exact⟨hr,hs,hn,qOK hl⟩
theorem qUF:∀ {m:Nat} {xs:List PV},TyT Tryz.prog m qFA xs->∃ c:Cs,xs=c.cells/\qCq c.cond/\c.nums.length<=9223372036854775807
 | 0,_,h=>h.elim
 | m+1,xs,h=>by
  have hp:partsOf Tryz.prog qFA=some [(qM2,0),(34,10)]:=by kernel_rfl
  rw [TyT] at h
  simp only [hp] at h
  obtain⟨x1,_,rfl,_,h1,x2,_,rfl,_,h2,rfl⟩:=h
  obtain⟨c,rfl,hc⟩:=qLq _ h1
  obtain⟨s,rfl,hs⟩:=qPl h2
  exact⟨⟨c,s⟩,rfl,hc,hs⟩
theorem qPm:∀ {m:Nat} {xs:List PV},TyT Tryz.prog m 78 xs->∃ l:List Cs,xs=[css l]/\BigL l
 | 0,_,h=>h.elim
 | m+1,xs,h=>by
  have hp:partsOf Tryz.prog 78=none:=by simp [partsOf,Tryz.underlying78]
  have hc:Tryz.prog.cellsOf qFA=11:=by kernel_rfl
  rw [TyT] at h
  simp only [hp,Tryz.underlying78,hc] at h
  obtain⟨ys,rfl,hn,hy⟩:=h
  obtain⟨l,rfl,hl⟩:=qC6 (f:=Cs.cells) (P:=fun c=>qCq c.cond/\c.nums.length<=9223372036854775807) fun y hy'=>qUF (hy y hy')
  rw [List.length_map] at hn
  exact⟨l,rfl,hn,fun c hc=>(hl c hc).1,fun c hc=>(hl c hc).2⟩
theorem qUE:∀ {m:Nat} {xs:List PV},TyT Tryz.prog m qIf xs->∃ d:De,xs=d.cells/\BigD d
 | 0,_,h=>h.elim
 | m+1,xs,h=>by
  have hp:partsOf Tryz.prog qIf=some [(3,0),(3,1),(9,2),(9,3),(77,4),(78,5)]:=by kernel_rfl
  rw [TyT] at h
  simp only [hp] at h
  obtain⟨x1,_,rfl,_,h1,x2,_,rfl,_,h2,x3,_,rfl,_,h3,x4,_,rfl,_,h4,x5,_,rfl,_,h5,x6,_,rfl,_,h6,rfl⟩:=h
  obtain⟨a,rfl,_⟩:=qFD h1
  obtain⟨b,rfl,_⟩:=qFD h2
  obtain⟨c,rfl,hc⟩:=qKo h3
  obtain⟨d,rfl,hd⟩:=qKo h4
  obtain⟨l,rfl,hl,hr⟩:=qUD h5
  obtain⟨k,rfl,hk⟩:=qPm h6
  exact⟨⟨a,b,c,d,l,k⟩,rfl,hc,hd,hl,hr,hk⟩
theorem qSC:∀ {m:Nat} {xs:List PV},TyT Tryz.prog m 22 xs->∃ l:List De,xs=[des l]/\BigP l
 | 0,_,h=>h.elim
 | m+1,xs,h=>by
  have hp:partsOf Tryz.prog 22=none:=by simp [partsOf,Tryz.underlying22]
  have hc:Tryz.prog.cellsOf qIf=6:=by kernel_rfl
  rw [TyT] at h
  simp only [hp,Tryz.underlying22,hc] at h
  obtain⟨ys,rfl,hn,hy⟩:=h
  obtain⟨l,rfl,hl⟩:=qC6 (f:=De.cells) (P:=BigD) fun y hy'=>qUE (hy y hy')
  rw [List.length_map] at hn
  exact⟨l,rfl,hn,hl⟩
theorem qPJ {m:Nat} {x:PV} (h:qM6 Tryz.prog m 24 x):∃ ds:List De,x=qCT ds/\BigP ds:=by
 have hp:partsOf Tryz.prog 24=some [(22,0)]:=by kernel_rfl
 simp only [qM6,hp] at h
 obtain⟨xs,rfl,h⟩:=h
 cases m with
 | zero=>exact h.elim
 | succ m=>
  rw [TyT] at h
  simp only [hp] at h
  obtain⟨x1,_,rfl,_,h1,rfl⟩:=h
  obtain⟨l,rfl,hl⟩:=qSC h1
  exact⟨l,rfl,hl⟩
structure Be where
 what:UInt8
 place:UInt8
 cse:UInt8
 n:Int
 name:List UInt8
 ref:Rf
 cond:Cd
abbrev Be.cells (b:Be):List PV:=[u8 b.what,u8 b.place,u8 b.cse,i64 b.n, .str b.name]++(b.ref.cells++b.cond.cells)
structure Be.ok (b:Be):Prop where
 n:-9223372036854775808<=b.n/\b.n<=9223372036854775807
 name:qKi b.name
 ref:BigR b.ref
 cond:qCq b.cond
theorem qJZ {m:Nat} {x:PV} (h:qM6 Tryz.prog m 39 x):∃ b:Be,x=.agg b.cells/\b.ok:=by
 have hp:partsOf Tryz.prog 39=some [(5,0),(5,1),(5,2),(3,3),(9,4),(qR4,5),(qM2,9)]:=by kernel_rfl
 simp only [qM6,hp] at h
 obtain⟨xs,rfl,h⟩:=h
 cases m with
 | zero=>exact h.elim
 | succ m=>
  rw [TyT] at h
  simp only [hp] at h
  obtain⟨x1,_,rfl,_,h1,x2,_,rfl,_,h2,x3,_,rfl,_,h3,x4,_,rfl,_,h4,x5,_,rfl,_,h5,x6,_,rfl,_,h6,x7,_,rfl,_,h7,rfl⟩:=h
  obtain⟨a,rfl⟩:=qUC h1
  obtain⟨b,rfl⟩:=qUC h2
  obtain⟨c,rfl⟩:=qUC h3
  obtain⟨n,rfl,hn⟩:=qFD h4
  obtain⟨s,rfl,hs⟩:=qKo h5
  obtain⟨r,rfl,hr⟩:=qPk h6
  obtain⟨cd,rfl,hcd⟩:=qLq _ h7
  exact⟨⟨a,b,c,n,s,r,cd⟩,by simp [Be.cells],hn,hs,hr,hcd⟩
theorem qIx (s:List UInt8):∀ (f k:Nat) (acc ws:List Wd),GoodW acc->qDe f s k acc=.ok ws->GoodW ws
 | 0,k,acc,ws,h,e=>by
  rw [qDe] at e
  injection e with e
  subst e;exact h
 | f+1,k,acc,ws,h,e=>by
  rw [qDe] at e
  split at e
  ·cases e
  ·rename_i n _
   rw [qFT] at e
   split at e
   ·injection e with e
    subst e;exact h
   ·split at e
    ·cases e
    ·rename_i hr
     split at e
     ·cases e
     ·rename_i hn
      refine qIx s f _ _ ws ⟨fun w hw=>?_,?_⟩ e
      ·rcases List.mem_append.1 hw with hw | hw
       ·exact h.right w hw
       ·rw [List.mem_singleton.1 hw];exact hr
      ·have:=h.len
       rw [qAK];omega
theorem qHr {s:List UInt8} {ws:List Wd} (h:qDd s=.ok ws):GoodW ws:=
 qIx s _ _ [] ws ⟨fun w hw=>by simp at hw,by simp⟩ h
theorem qD4 {ws:List Wd} (hg:GoodW ws) {q q':Nat} {t:List UInt8} (h:qCs ws q=.inr (t,q')):qKi t:=by
 rw [qCs] at h
 split at h
 ·rename_i hk
  injection h with h;injection h with h1 h2
  have:=hg.at (qF8 (ws:=ws) (q:=q) (by rw [hk];decide))
  rw [hk] at this
  have:qAo (txt ws q)=true:=this
  simp only [qAo,Bool.and_eq_true,decide_eq_true_eq] at this
  rw [qKi,<- h1]
  have:=this.1.1.1.2
  omega
 ·cases h
theorem qBQ:qKi []:=by rw [qKi];simp
theorem qHM {ws:List Wd} {nm pl:List UInt8} {m n:Int} {q q':Nat} {r:Rf} (h1:qKi nm) (h2:qKi pl) (h:qCa ws nm m pl n q=.inr (r,q')):BigR r:=by
 obtain⟨u,p,_,h⟩:=then_ok h
 injection h with h;injection h with h3 h4
 rw [<- h3];exact⟨h1,h2⟩
theorem qQG {ws:List Wd} (hg:GoodW ws) {q q':Nat} {r:Rf} (h:qIw ws q=.inr (r,q')):BigR r:=by
 rw [qIw] at h
 obtain⟨nm,q1,h1,h⟩:=then_ok h
 have b1:=qD4 hg h1
 try simp only [] at h
 split at h
 ·split at h
  ·exact qHM b1 qBQ h
  ·split at h
   ·obtain⟨n,q2,h2,h⟩:=then_ok h
    exact qHM b1 qBQ h
   ·obtain⟨pl,q2,h2,h⟩:=then_ok h
    have b2:=qD4 hg h2
    try simp only [] at h
    split at h
    ·obtain⟨n,q3,h3,h⟩:=then_ok h
     exact qHM b1 b2 h
    ·exact qHM b1 b2 h
 ·injection h with h;injection h with h3 h4
  rw [<- h3];exact⟨b1,qBQ⟩
theorem qNu {α:Type} {ws:List Wd} {rd:Nat->Rd α} {P:α->Prop} (hrd:∀ q a q',rd q=.inr (a,q')->P a):∀ (f:Nat) {acc l:List α} {q q':Nat},(∀ a∈acc,P a)->qDf ws rd f acc q=.inr (l,q')->(∀ a∈l,P a)/\l.length<=acc.length+f
 | 0,_,_,_,_,_,h=>by cases h
 | f+1,acc,l,q,q',ha,h=>by
  rw [qDf] at h
  split at h
  ·obtain⟨a,q1,h1,h⟩:=then_ok h
   have h2:=qNu hrd f (acc:=acc++[a]) (fun b hb=>by
    rcases List.mem_append.1 hb with hb | hb
    ·exact ha b hb
    ·rw [List.mem_singleton.1 hb];exact hrd _ _ _ h1) h
   rw [qAK] at h2
   exact⟨h2.1,by omega⟩
  ·injection h with h;injection h with h1 h2
   rw [<- h1];exact⟨ha,by omega⟩
theorem qNw {α:Type} {ws:List Wd} {rd:Nat->Rd α} {P:α->Prop} (hrd:∀ q a q',rd q=.inr (a,q')->P a) {F q q':Nat} {l:List α} (h:qFZ ws rd F q=.inr (l,q')):(∀ a∈l,P a)/\l.length<=F+1:=by
 rw [qFZ] at h
 obtain⟨a,q1,h1,h⟩:=then_ok h
 have:=qNu hrd F (acc:=[a]) (fun b hb=>by rw [List.mem_singleton.1 hb];exact hrd _ _ _ h1) h
 simp only [List.length_singleton] at this
 exact⟨this.1,by omega⟩
theorem qJy {ws:List Wd} (hg:GoodW ws) {F:Nat} {key:List UInt8} {q q':Nat} {l:List Rf} (h:qE6 ws F key q=.inr (l,q')):(∀ r∈l,BigR r)/\l.length<=F+1:=by
 rw [qE6] at h
 split at h
 ·exact qNw (fun q a q' h=>qQG hg h) h
 ·injection h with h;injection h with h1 h2
  rw [<- h1];exact⟨fun r hr=>by simp at hr,by simp⟩
theorem qN4 {ws:List Wd}:∀ (f:Nat) {acc l:List Int} {q q':Nat},qD9 ws f acc q=.inr (l,q')->l.length<=acc.length+f
 | 0,_,_,_,_,h=>by cases h
 | f+1,acc,l,q,q',h=>by
  rw [qD9] at h
  split at h
  ·obtain⟨a,q1,h1,h⟩:=then_ok h
   have:=qN4 f h
   rw [qAK] at this;omega
  ·injection h with h;injection h with h1 h2
   rw [<- h1];omega
theorem qNn {ws:List Wd} {F q q':Nat} {l:List Int} (h:qD3 ws F q=.inr (l,q')):l.length<=F+1:=by
 rw [qD3] at h
 obtain⟨a,q1,h1,h⟩:=then_ok h
 have:=qN4 F h
 simp only [List.length_singleton] at this;omega
theorem qQ9 (l:List Int) (n:Int):(qH9 l n).length<=l.length+1:=by
 induction l with
 | nil=>simp [qH9]
 | cons x l ih=>
  rw [qH9]
  split
  ·simp
  ·split
   ·simp
   ·simp only [List.length_cons];omega
theorem qPu:∀ (l acc:List Int),(l.foldl qH9 acc).length<=acc.length+l.length
 | [],acc=>by simp
 | x::l,acc=>by
  have:=qPu l (qH9 acc x)
  have:=qQ9 acc x
  simp only [List.foldl_cons,List.length_cons];omega
structure CBig (ws:List Wd) (F:Nat):Prop where
 cond:∀ {q c q'},qDJ ws F q=.inr (c,q')->qCq c
 orr:∀ {d q c q'},qCq d->orR ws F d q=.inr (c,q')->qCq c
 conj:∀ {q c q'},qC0 ws F q=.inr (c,q')->qCq c
 andr:∀ {d q c q'},qCq d->qLp ws F d q=.inr (c,q')->qCq c
 neg:∀ {q c q'},qHT ws F q=.inr (c,q')->qCq c
 test:∀ {q c q'},qET ws F q=.inr (c,q')->qCq c
theorem qGt {op:Int} {a b:Cd} (ha:qCq a) (hb:qCq b):qCq (.mk op 0 0 0 rf0 [] [a,b]):=by
 simp only [qCq,qIg]
 exact⟨⟨qBQ,qBQ⟩,by simp,by simp,ha,hb,trivial⟩
theorem qMt {op:Int} {a:Cd} (ha:qCq a):qCq (.mk op 0 0 0 rf0 [] [a]):=by
 simp only [qCq,qIg]
 exact⟨⟨qBQ,qBQ⟩,by simp,by simp,ha,trivial⟩
theorem qC1 {o n r v:Int} {rf:Rf} {st:List Int} (hr:BigR rf) (hs:st.length<=9223372036854775807):qCq (.mk o n r v rf st []):=by
 simp only [qCq,qIg]
 exact⟨hr,hs,by simp,trivial⟩
theorem qW2 (ws:List Wd) (hg:GoodW ws):∀ F,F<=100000->CBig ws F
 | 0,_=>by
  constructor
  ·intro q c q' h;rw [qDJ] at h;cases h
  ·intro d q c q' _ h;rw [orR] at h;cases h
  ·intro q c q' h;rw [qC0] at h;cases h
  ·intro d q c q' _ h;rw [qLp] at h;cases h
  ·intro q c q' h;rw [qHT] at h;cases h
  ·intro q c q' h;rw [qET] at h;cases h
 | F+1,hF=>by
  have ih:=qW2 ws hg F (by omega)
  constructor
  ·intro q c q' h
   rw [qDJ] at h
   obtain⟨a,p,h1,h⟩:=then_ok h
   exact ih.orr (ih.conj h1) h
  ·intro d q c q' hd h
   rw [orR] at h
   split at h
   ·obtain⟨a,p,h1,h⟩:=then_ok h
    exact ih.orr (qGt hd (ih.conj h1)) h
   ·injection h with h;injection h with h1 h2
    rw [<- h1];exact hd
  ·intro q c q' h
   rw [qC0] at h
   obtain⟨a,p,h1,h⟩:=then_ok h
   exact ih.andr (ih.neg h1) h
  ·intro d q c q' hd h
   rw [qLp] at h
   split at h
   ·obtain⟨a,p,h1,h⟩:=then_ok h
    exact ih.andr (qGt hd (ih.neg h1)) h
   ·injection h with h;injection h with h1 h2
    rw [<- h1];exact hd
  ·intro q c q' h
   rw [qHT] at h
   split at h
   ·obtain⟨a,p,h1,h⟩:=then_ok h
    injection h with h;injection h with h2 h3
    rw [<- h2];exact qMt (ih.neg h1)
   ·exact ih.test h
  ·intro q c q' h
   rw [qET] at h
   split at h
   ·obtain⟨a,p,h1,h⟩:=then_ok h
    obtain⟨u,p2,h2,h⟩:=then_ok h
    injection h with h;injection h with h3 h4
    rw [<- h3];exact ih.cond h1
   ·split at h
    ·obtain⟨u,p1,h1,h⟩:=then_ok h
     obtain⟨nm,p2,h2,h⟩:=then_ok h
     obtain⟨u3,p3,h3,h⟩:=then_ok h
     obtain⟨v,p4,h4,h⟩:=then_ok h
     obtain⟨u5,p5,h5,h⟩:=then_ok h
     obtain⟨r,p6,h6,h⟩:=then_ok h
     obtain⟨n,p7,h7,h⟩:=then_ok h
     injection h with h;injection h with h8 h9
     rw [<- h8];exact qC1 ⟨qD4 hg h2,qBQ⟩ (by simp)
    ·obtain⟨r,p1,h1,h⟩:=then_ok h
     have hr:=qQG hg h1
     try simp only [] at h
     split at h
     ·obtain⟨u,p2,h2,h⟩:=then_ok h
      obtain⟨l,p3,h3,h⟩:=then_ok h
      obtain⟨u4,p4,h4,h⟩:=then_ok h
      have hl:=(qNw (P:=fun _=>True) (fun _ _ _ _=>trivial) h3).2
      have hs:=qPu l []
      injection h with h;injection h with h8 h9
      rw [<- h8];exact qC1 hr (by rw [qPQ];simp only [List.length_nil] at hs;omega)
     ·obtain⟨o,p2,h2,h⟩:=then_ok h
      obtain⟨n,p3,h3,h⟩:=then_ok h
      injection h with h;injection h with h8 h9
      rw [<- h8];exact qC1 hr (by simp)
structure BigK (F:Nat) (c:Cs):Prop where
 cond:qCq c.cond
 nums:c.nums.length<=F+1
theorem qLS {ws:List Wd} (hg:GoodW ws) {F:Nat} (hF:F<=100000):∀ (f:Nat) {acc l:List Cs} {q q':Nat},(∀ c∈acc,BigK F c)->qDV ws F f acc q=.inr (l,q')->(∀ c∈l,BigK F c)/\l.length<=acc.length+f
 | 0,_,_,_,_,_,h=>by cases h
 | f+1,acc,l,q,q',ha,h=>by
  rw [qDV] at h
  split at h
  ·rw [qGV] at h
   obtain⟨u,q1,h1,h⟩:=then_ok h
   obtain⟨l1,q2,h2,h⟩:=then_ok h
   obtain⟨u3,q3,h3,h⟩:=then_ok h
   injection h with h;injection h with h8 h9
   rw [<- h8]
   refine⟨fun c hc=>?_,by rw [qAK];omega⟩
   rcases List.mem_append.1 hc with hc | hc
   ·exact ha c hc
   ·rw [List.mem_singleton.1 hc]
    exact⟨qC1 ⟨qBQ,qBQ⟩ (by simp),qNn h2⟩
  ·obtain⟨c,q1,h1,h⟩:=then_ok h
   obtain⟨u2,q2,h2,h⟩:=then_ok h
   obtain⟨l3,q3,h3,h⟩:=then_ok h
   obtain⟨u4,q4,h4,h⟩:=then_ok h
   have:=qLS hg hF f (acc:=acc++[⟨c,l3⟩]) (fun x hx=>by
    rcases List.mem_append.1 hx with hx | hx
    ·exact ha x hx
    ·rw [List.mem_singleton.1 hx]
     exact⟨(qW2 ws hg F hF).cond h1,qNn h3⟩) h
   rw [qAK] at this
   exact⟨this.1,by omega⟩
theorem qNS {ws:List Wd} (hg:GoodW ws) {F:Nat} (hF:F<=100000) {q q':Nat} {l:List Cs} (h:qGU ws F q=.inr (l,q')):BigL l:=by
 rw [qGU] at h
 obtain⟨u,q1,h1,h⟩:=then_ok h
 obtain⟨h2,h3⟩:=qLS hg hF F (acc:=[]) (fun c hc=>by simp at hc) h
 simp only [List.length_nil] at h3
 exact⟨by omega,fun c hc=>(h2 c hc).cond,fun c hc=>by have:=(h2 c hc).nums;omega⟩
theorem qGf:BigL []:=⟨by simp,fun c hc=>by simp at hc,fun c hc=>by simp at hc⟩
theorem qK5 {ws:List Wd} (hg:GoodW ws) {F:Nat} (hF:F<=100000) {q q':Nat} {nm pl:List UInt8} {d:De} (b1:qKi nm) (b2:qKi pl) (h:qCD ws F nm pl q=.inr (d,q')):BigD d:=by
 rw [qCD] at h
 obtain⟨u1,q1,h1,h⟩:=then_ok h
 obtain⟨n,q2,h2,h⟩:=then_ok h
 obtain⟨l,q3,h3,h⟩:=then_ok h
 obtain⟨u4,q4,h4,h⟩:=then_ok h
 obtain⟨cs,q5,h5,h⟩:=then_ok h
 have hr:=qJy hg h3
 injection h with h;injection h with h8 h9
 rw [<- h8]
 exact⟨b1,b2,by have:=hr.2;simp only [];omega,hr.1,qNS hg hF h5⟩
theorem qS4 {ws:List Wd} (hg:GoodW ws) {F:Nat} (hF:F<=100000) {q q':Nat} {d:De} (h:qCL ws F q=.inr (d,q')):BigD d:=by
 rw [qCL] at h
 split at h
 ·rw [qGB] at h
  obtain⟨n,q1,h1,h⟩:=then_ok h
  injection h with h;injection h with h8 h9
  rw [<- h8]
  exact⟨qBQ,qBQ,by simp,fun r hr=>by simp at hr,qGf⟩
 split at h
 ·rw [qF1] at h
  obtain⟨nm,q1,h1,h⟩:=then_ok h
  obtain⟨u,q2,h2,h⟩:=then_ok h
  obtain⟨n,q3,h3,h⟩:=then_ok h
  injection h with h;injection h with h8 h9
  rw [<- h8]
  exact⟨qD4 hg h1,qBQ,by simp,fun r hr=>by simp at hr,qGf⟩
 split at h
 ·rw [qKB] at h
  obtain⟨nm,q1,h1,h⟩:=then_ok h
  have b1:=qD4 hg h1
  try simp only [] at h
  split at h
  ·obtain⟨pl,q2,h2,h⟩:=then_ok h
   obtain⟨u,q3,h3,h⟩:=then_ok h
   exact qK5 hg hF b1 (qD4 hg h2) h
  ·exact qK5 hg hF b1 qBQ h
 split at h
 ·rw [qEF] at h
  obtain⟨nm,q1,h1,h⟩:=then_ok h
  obtain⟨u,q2,h2,h⟩:=then_ok h
  obtain⟨n,q3,h3,h⟩:=then_ok h
  obtain⟨l,q4,h4,h⟩:=then_ok h
  have hr:=qJy hg h4
  injection h with h;injection h with h8 h9
  rw [<- h8]
  exact⟨qD4 hg h1,qBQ,by have:=hr.2;simp only [];omega,hr.1,qGf⟩
 split at h
 ·rw [qKJ] at h
  obtain⟨l,q1,h1,h⟩:=then_ok h
  obtain⟨u,q2,h2,h⟩:=then_ok h
  obtain⟨cs,q3,h3,h⟩:=then_ok h
  have hr:=qJy hg h1
  injection h with h;injection h with h8 h9
  rw [<- h8]
  exact⟨qBQ,qBQ,by have:=hr.2;simp only [];omega,hr.1,qNS hg hF h3⟩
 ·cases h
theorem qNh {ws:List Wd} (hg:GoodW ws) {F:Nat} (hF:F<=100000):∀ (f:Nat) {acc l:List De} {q q':Nat},(∀ d∈acc,BigD d)->qDL ws F f acc q=.inr (l,q')->(∀ d∈l,BigD d)/\l.length<=acc.length+f
 | 0,_,_,_,_,_,h=>by cases h
 | f+1,acc,l,q,q',ha,h=>by
  rw [qDL] at h
  split at h
  ·obtain⟨d,q1,h1,h⟩:=then_ok h
   obtain⟨u,q2,h2,h⟩:=then_ok h
   have:=qNh hg hF f (acc:=acc++[d]) (fun x hx=>by
    rcases List.mem_append.1 hx with hx | hx
    ·exact ha x hx
    ·rw [List.mem_singleton.1 hx];exact qS4 hg hF h1) h
   rw [qAK] at this
   exact⟨this.1,by omega⟩
  ·injection h with h;injection h with h8 h9
   rw [<- h8];exact⟨ha,by omega⟩
theorem qHu {ws:List Wd} (hg:GoodW ws) {F:Nat} (hF:F<=100000) {l:List De} {q':Nat} (h:qDL ws F F [] 0=.inr (l,q')):BigP l:=by
 have:=qNh hg hF F (acc:=[]) (fun d hd=>by simp at hd) h
 simp only [List.length_nil] at this
 exact⟨by omega,this.1⟩
def qIC (ws:List Wd):Nat:=4 * ws.length+8
def qEN (s:List UInt8):Sum ((Int × Int) × Int) (List De):=
 if 8000<s.length then .inl ((0,0),3) else match qDd s with
 | .err p c=>.inl ((p.1,p.2),c)
 | .ok ws=>match qDL ws (qIC ws) (qIC ws) [] 0 with
  | .inl q=>.inl (((wat ws q).line,(wat ws q).col),381)
  | .inr (ds,_)=>if qBP ds=true then .inr ds else .inl ((0,0),3)
def qYF:Sum ((Int × Int) × Int) (List De)->List PV
 | .inl (p,e)=>[qCT [],i64 p.1,i64 p.2,i64 e]
 | .inr ds=>[qCT ds,i64 0,i64 0,i64 0]
def iO1 (n:Int):AObj:=⟨qVZ,false, .bx [.p (i64 n)]⟩
def eO1 (n:Int):AObj:=⟨45,false, .bx [.p (i64 n)]⟩
theorem qDn (s:List UInt8):∀ (f k:Nat) (acc:List Wd) (p:Nat × Nat) (c:Int),qDe f s k acc=.err p c->c=370∨c=3
 | 0,k,acc,p,c,e=>by
  rw [qDe] at e
  cases e
 | f+1,k,acc,p,c,e=>by
  rw [qDe] at e
  split at e
  ·injection e with _ e;exact .inl e.symm
  ·rw [qFT] at e
   split at e
   ·cases e
   ·split at e
    ·injection e with _ e;exact .inl e.symm
    ·split at e
     ·injection e with _ e;exact .inr e.symm
     ·exact qDn s f _ _ p c e
abbrev qYD (N:Nat):Hp:=⟨N,[(3,eO1 0),(2,iO1 0),(1,iO1 0),(0,srO (.p .nils))]⟩
theorem qME (s:List UInt8):Pure cx 22 [.str s] (·=.ret (qYF (qEN s))):=by
 have hRd:=qWE s
 refine qAB Tryz.func22 rfl rfl rfl ?_
 by_cases h0:8000<s.length
 ·rw [qCl,if_pos h0] at hRd
  refine hRd.eq rfl ?_
  have e:qEN s=.inl ((0,0),3):=by rw [qEN,if_pos h0]
  refine And.intro (fun h=>absurd (show(3:Int)=0 from h) (by decide)) (fun _=>?_)
  refine VDraw.seq rfl ?_
  refine⟨sk,?_⟩
  refine⟨sk,?_⟩
  refine⟨sk,?_⟩
  exact qKQ (qCT []) (i64 0) (i64 0) (i64 3) rfl ⟨_,rfl,_,_,rfl, .inr (.inr ⟨6,rfl⟩),rfl⟩ rfl rfl rfl (by rw [e];rfl)
 cases hr:qDd s with
 | err p c=>
  rw [qCl,if_neg h0,hr] at hRd
  refine hRd.eq rfl ?_
  have e:qEN s=.inl ((p.1,p.2),c):=by rw [qEN,if_neg h0,hr]
  have hc:¬ c=0:=by
   have:=qDn s _ _ _ _ _ hr
   omega
  refine And.intro (fun h=>absurd (show c=0 from h) hc) (fun _=>?_)
  refine VDraw.seq rfl ?_
  refine⟨sk,?_⟩
  refine⟨sk,?_⟩
  refine⟨sk,?_⟩
  exact qKQ (qCT []) (i64 p.1) (i64 p.2) (i64 c) rfl ⟨_,rfl,_,_,rfl, .inr (.inr ⟨6,rfl⟩),rfl⟩ rfl rfl rfl (by rw [e];rfl)
 | ok ws=>
  have hg:=qHr hr
  have hl:=hg.len
  rw [qCl,if_neg h0,hr] at hRd
  refine hRd.eq rfl ?_
  refine And.intro (fun _=>?_) (fun h=>absurd rfl h)
  obtain⟨F,hF⟩:∃ F,F=qIC ws:=⟨_,rfl⟩
  have hF8:4 * ws.length+8<=F:=by rw [hF];exact Nat.le_refl _
  have hFb:F<=100000:=by rw [hF,qIC];omega
  have e:qEN s=match qDL ws F F [] 0 with
    | .inl q=>.inl (((wat ws q).line,(wat ws q).col),381)
    | .inr (ds,_)=>if qBP ds=true then .inr ds else .inl ((0,0),3):=by rw [qEN,if_neg h0,hr,hF]
  clear hF
  refine(qQR ws F 0 hF8 hg (Nat.zero_le _)).holds.useT [] [(0,4)] rfl (sk) (sk) fun e0 H0 hq=>?_
  rcases hp:qDL ws F F [] 0 with q | ⟨ds,q⟩
  ·rw [hp] at hq e
   obtain⟨rfl,rfl⟩:=hq
   refine⟨rfl,_,qYD 5,rfl,rfl,?_⟩
   refine qDr Tryz.func54 rfl rfl rfl ?_
   refine VDraw.seq rfl ?_
   refine⟨sk,?_⟩
   refine⟨sk,?_⟩
   refine⟨[],[],[], .returned und,⟨5,[(3,eO1 381),(2,iO1 (wat ws q).col),(1,iO1 (wat ws q).line),(0,srO (.p .nils))]⟩,rfl,sk,sk,?_⟩
   exact qKQ (qCT []) (i64 (wat ws q).line) (i64 (wat ws q).col) (i64 381) rfl ⟨_,rfl,_,_,rfl, .inr (.inr ⟨6,rfl⟩),rfl⟩ rfl rfl rfl (by rw [e];rfl)
  ·rw [hp] at hq e
   obtain⟨hql,rfl,rfl⟩:=hq
   refine⟨rfl,_,⟨5,(4,psO ws q)::(qYD 5).l⟩,rfl,rfl,?_⟩
   have hC:=qJ7 ds (qHu hg hFb hp)
   by_cases hv:qBP ds=true
   ·rw [qRd,if_pos hv] at hC
    refine hC.eq rfl ?_
    refine And.intro (fun _=>?_) (fun h=>absurd rfl h)
    have e:qEN s=.inr ds:=e.trans (if_pos hv)
    refine qDr Tryz.func54 rfl rfl rfl ?_
    refine⟨[],[],[], .returned und,⟨5,[(3,eO1 0),(2,iO1 0),(1,iO1 0),(0,srO (.p (des ds)))]⟩,rfl,sk,sk,?_⟩
    exact qKQ (qCT ds) (i64 0) (i64 0) (i64 0) rfl rfl rfl rfl rfl (by rw [e];rfl)
   ·rw [qRd,if_neg hv] at hC
    refine hC.eq rfl ?_
    refine And.intro (fun h=>absurd (show(380:Int)=0 from h) (by decide)) (fun _=>?_)
    have e:qEN s=.inl ((0,0),3):=e.trans (if_neg hv)
    refine qDr Tryz.func54 rfl rfl rfl ?_
    refine⟨[],[],[], .returned und,⟨5,[(3,eO1 3),(2,iO1 0),(1,iO1 0),(0,srO (.p .nils))]⟩,rfl,sk,sk,?_⟩
    exact qKQ (qCT []) (i64 0) (i64 0) (i64 3) rfl ⟨_,rfl,_,_,rfl, .inr (.inr ⟨6,rfl⟩),rfl⟩ rfl rfl rfl (by rw [e];rfl)
set_option maxHeartbeats 40000000
theorem qEc (n:Int):Pure cx 116 [i64 n] (·=.ret [.bool (qBm n)]):=by
 refine qAB Tryz.func116 rfl rfl rfl ?_
 refine QAD (fun h1=>?_) (fun h1=>?_)
 ·have h1:(0:Int)<=n:=h1
  refine QAD (fun h2=>?_) (fun h2=>?_)
  ·have h2:n<=9999:=h2
   exact qAF _ rfl rfl (qAN (by simp [qBm,h1,h2]))
  ·have h2:¬ n<=9999:=h2
   exact qAF _ rfl rfl (qAN (by simp [qBm,h2]))
 ·have h1:¬ (0:Int)<=n:=h1
  exact qAF _ rfl rfl (qAN (by simp [qBm,h1]))
theorem qTX (r:Rf) (hr:BigR r):Pure cx 159 [r.pv] (·=.ret [.bool (qBp r)]):=by
 refine qAB Tryz.func159 rfl rfl rfl ?_
 have hN:=qHt r.name hr.name
 by_cases n1:qAo r.name=true
 rotate_left
 ·rw [Bool.not_eq_true] at n1
  rw [n1] at hN
  refine hN.eq rfl ?_
  exact qAF _ rfl rfl (qAN (by rw [qBp,n1];rfl))
 rw [n1] at hN
 refine hN.eq rfl ?_
 have hP:=qHt r.plate hr.plate
 have hA:=qEc r.n
 refine QAD (fun h1=>?_) (fun h1=>?_)
 ·have h1:r.mode=0:=h1
  refine QAD (fun h2=>?_) (fun h2=>?_)
  ·have h2:r.plate=[]:=h2
   refine QAD (fun h3=>?_) (fun h3=>?_)
   ·have h3:r.n=0:=h3
    exact qAF _ rfl rfl (qAN (by simp [qBp,n1,h1,h2,h3]))
   ·have h3:¬ r.n=0:=h3
    exact qAF _ rfl rfl (qAN (by simp [qBp,n1,h1,h2,h3]))
  ·have h2:¬ r.plate=[]:=h2
   exact qAF _ rfl rfl (qAN (by simp [qBp,n1,h1,h2]))
 have h1:¬ r.mode=0:=h1
 refine QAD (fun h4=>?_) (fun h4=>?_)
 ·have h4:r.mode=3:=h4
  refine QAD (fun h2=>?_) (fun h2=>?_)
  ·have h2:r.plate=[]:=h2
   refine QAD (fun h3=>?_) (fun h3=>?_)
   ·have h3:r.n=0:=h3
    exact qAF _ rfl rfl (qAN (by simp [qBp,n1,h4,h2,h3]))
   ·have h3:¬ r.n=0:=h3
    exact qAF _ rfl rfl (qAN (by simp [qBp,n1,h4,h2,h3]))
  ·have h2:¬ r.plate=[]:=h2
   exact qAF _ rfl rfl (qAN (by simp [qBp,n1,h4,h2]))
 have h4:¬ r.mode=3:=h4
 refine QAD (fun h5=>?_) (fun h5=>?_)
 ·have h5:r.mode=1:=h5
  by_cases n2:qAo r.plate=true
  ·rw [n2] at hP
   refine hP.eq rfl ?_
   refine hA.eq rfl ?_
   exact qAF _ rfl rfl (qAN (by simp [qBp,n1,n2,h5]))
  ·rw [Bool.not_eq_true] at n2
   rw [n2] at hP
   refine hP.eq rfl ?_
   exact qAF _ rfl rfl (qAN (by simp [qBp,n1,n2,h5]))
 have h5:¬ r.mode=1:=h5
 refine QAD (fun h6=>?_) (fun h6=>?_)
 ·have h6:r.mode=2:=h6
  refine QAD (fun h2=>?_) (fun h2=>?_)
  ·have h2:r.plate=[]:=h2
   refine hA.eq rfl ?_
   exact qAF _ rfl rfl (qAN (by simp [qBp,n1,h6,h2]))
  ·have h2:¬ r.plate=[]:=h2
   exact qAF _ rfl rfl (qAN (by simp [qBp,n1,h6,h2]))
 have h6:¬ r.mode=2:=h6
 exact qAF _ rfl rfl (qAN (by simp [qBp,h1,h4,h5,h6]))
theorem qUK (op n rel val:Int) (r:Rf) (st:List Int) (ar:List Cd) (hr:BigR r) (hs:st.length<=9223372036854775807):Pure cx 186 [(Cd.mk op n rel val r st ar).pv] (·=.ret [.bool (qAT op n rel val r st)]):=by
 refine qAB Tryz.func186 rfl rfl rfl ?_
 have hRf:=qTX r hr
 have hNn:=qEc n
 have hNv:=qEc val
 have hm:(st.map i64).length=st.length:=List.length_map ..
 refine QAD (fun o1=>?_) (fun o1=>?_)
 ·have o1:op=1:=o1
  by_cases r1:qBp r=true
  rotate_left
  ·rw [Bool.not_eq_true] at r1
   rw [r1] at hRf
   refine hRf.eq rfl ?_
   exact qAF _ rfl rfl (qAN (by simp [qAT, *]))
  rw [r1] at hRf
  refine hRf.eq rfl ?_
  by_cases r2:qBm n=true
  rotate_left
  ·rw [Bool.not_eq_true] at r2
   rw [r2] at hNn
   refine hNn.eq rfl ?_
   exact qAF _ rfl rfl (qAN (by simp [qAT, *]))
  rw [r2] at hNn
  refine hNn.eq rfl ?_
  refine QAD (fun r3=>?_) (fun r3=>?_)
  rotate_left
  ·have r3:¬ rel=0:=r3
   exact qAF _ rfl rfl (qAN (by simp [qAT, *]))
  have r3:rel=0:=r3
  refine QAD (fun r4=>?_) (fun r4=>?_)
  rotate_left
  ·have r4:¬ val=0:=r4
   exact qAF _ rfl rfl (qAN (by simp [qAT, *]))
  have r4:val=0:=r4
  refine QAD (fun r9=>?_) (fun r9=>?_)
  rotate_left
  ·have r9:¬ ((st.map i64).length:Int)=0:=r9
   have r9:¬ st=[]:=fun e=>r9 (by rw [e];rfl)
   exact qAF _ rfl rfl (qAN (by simp [qAT, *]))
  have r9:((st.map i64).length:Int)=0:=r9
  have r9:st=[]:=by rw [List.length_map] at r9;exact List.length_eq_zero_iff.1 (by omega)
  exact qAF _ rfl rfl (qAN (by simp [qAT, *]))
 have o1:¬ op=1:=o1
 refine QAD (fun o2=>?_) (fun o2=>?_)
 ·have o2:op=2:=o2
  by_cases r1:qBp r=true
  rotate_left
  ·rw [Bool.not_eq_true] at r1
   rw [r1] at hRf
   refine hRf.eq rfl ?_
   exact qAF _ rfl rfl (qAN (by simp [qAT, *]))
  rw [r1] at hRf
  refine hRf.eq rfl ?_
  by_cases r2:qBm n=true
  rotate_left
  ·rw [Bool.not_eq_true] at r2
   rw [r2] at hNn
   refine hNn.eq rfl ?_
   exact qAF _ rfl rfl (qAN (by simp [qAT, *]))
  rw [r2] at hNn
  refine hNn.eq rfl ?_
  refine QAD (fun r3=>?_) (fun r3=>?_)
  rotate_left
  ·have r3:¬ rel=0:=r3
   exact qAF _ rfl rfl (qAN (by simp [qAT, *]))
  have r3:rel=0:=r3
  refine QAD (fun r4=>?_) (fun r4=>?_)
  rotate_left
  ·have r4:¬ val=0:=r4
   exact qAF _ rfl rfl (qAN (by simp [qAT, *]))
  have r4:val=0:=r4
  refine QAD (fun r9=>?_) (fun r9=>?_)
  rotate_left
  ·have r9:¬ ((st.map i64).length:Int)=0:=r9
   have r9:¬ st=[]:=fun e=>r9 (by rw [e];rfl)
   exact qAF _ rfl rfl (qAN (by simp [qAT, *]))
  have r9:((st.map i64).length:Int)=0:=r9
  have r9:st=[]:=by rw [List.length_map] at r9;exact List.length_eq_zero_iff.1 (by omega)
  exact qAF _ rfl rfl (qAN (by simp [qAT, *]))
 have o2:¬ op=2:=o2
 refine QAD (fun o3=>?_) (fun o3=>?_)
 ·have o3:op=3:=o3
  by_cases r1:qBp r=true
  rotate_left
  ·rw [Bool.not_eq_true] at r1
   rw [r1] at hRf
   refine hRf.eq rfl ?_
   exact qAF _ rfl rfl (qAN (by simp [qAT, *]))
  rw [r1] at hRf
  refine hRf.eq rfl ?_
  by_cases r2:qBm n=true
  rotate_left
  ·rw [Bool.not_eq_true] at r2
   rw [r2] at hNn
   refine hNn.eq rfl ?_
   exact qAF _ rfl rfl (qAN (by simp [qAT, *]))
  rw [r2] at hNn
  refine hNn.eq rfl ?_
  refine QAD (fun r3=>?_) (fun r3=>?_)
  rotate_left
  ·have r3:¬ rel=0:=r3
   exact qAF _ rfl rfl (qAN (by simp [qAT, *]))
  have r3:rel=0:=r3
  refine QAD (fun r4=>?_) (fun r4=>?_)
  rotate_left
  ·have r4:¬ val=0:=r4
   exact qAF _ rfl rfl (qAN (by simp [qAT, *]))
  have r4:val=0:=r4
  refine QAD (fun r9=>?_) (fun r9=>?_)
  rotate_left
  ·have r9:¬ ((st.map i64).length:Int)=0:=r9
   have r9:¬ st=[]:=fun e=>r9 (by rw [e];rfl)
   exact qAF _ rfl rfl (qAN (by simp [qAT, *]))
  have r9:((st.map i64).length:Int)=0:=r9
  have r9:st=[]:=by rw [List.length_map] at r9;exact List.length_eq_zero_iff.1 (by omega)
  exact qAF _ rfl rfl (qAN (by simp [qAT, *]))
 have o3:¬ op=3:=o3
 refine QAD (fun o4=>?_) (fun o4=>?_)
 ·have o4:op=4:=o4
  by_cases r1:qBp r=true
  rotate_left
  ·rw [Bool.not_eq_true] at r1
   rw [r1] at hRf
   refine hRf.eq rfl ?_
   exact qAF _ rfl rfl (qAN (by simp [qAT, *]))
  rw [r1] at hRf
  refine hRf.eq rfl ?_
  by_cases r2:qBm n=true
  rotate_left
  ·rw [Bool.not_eq_true] at r2
   rw [r2] at hNn
   refine hNn.eq rfl ?_
   exact qAF _ rfl rfl (qAN (by simp [qAT, *]))
  rw [r2] at hNn
  refine hNn.eq rfl ?_
  refine QAD (fun r3=>?_) (fun r3=>?_)
  rotate_left
  ·have r3:¬ rel=0:=r3
   exact qAF _ rfl rfl (qAN (by simp [qAT, *]))
  have r3:rel=0:=r3
  refine QAD (fun r4=>?_) (fun r4=>?_)
  rotate_left
  ·have r4:¬ val=0:=r4
   exact qAF _ rfl rfl (qAN (by simp [qAT, *]))
  have r4:val=0:=r4
  refine QAD (fun r9=>?_) (fun r9=>?_)
  rotate_left
  ·have r9:¬ ((st.map i64).length:Int)=0:=r9
   have r9:¬ st=[]:=fun e=>r9 (by rw [e];rfl)
   exact qAF _ rfl rfl (qAN (by simp [qAT, *]))
  have r9:((st.map i64).length:Int)=0:=r9
  have r9:st=[]:=by rw [List.length_map] at r9;exact List.length_eq_zero_iff.1 (by omega)
  exact qAF _ rfl rfl (qAN (by simp [qAT, *]))
 have o4:¬ op=4:=o4
 refine QAD (fun o5=>?_) (fun o5=>?_)
 rotate_left
 ·have o5:¬ op=5:=o5
  refine QAD (fun o6=>?_) (fun o6=>?_)
  rotate_left
  ·have o6:¬ op=6:=o6
   exact qAF _ rfl rfl (qAN (by simp [qAT, *]))
  have o6:op=6:=o6
  by_cases r1:qBp r=true
  rotate_left
  ·rw [Bool.not_eq_true] at r1
   rw [r1] at hRf
   refine hRf.eq rfl ?_
   exact qAF _ rfl rfl (qAN (by simp [qAT, *]))
  rw [r1] at hRf
  refine hRf.eq rfl ?_
  refine QAD (fun r2=>?_) (fun r2=>?_)
  rotate_left
  ·have r2:¬ r.mode=3:=r2
   exact qAF _ rfl rfl (qAN (by simp [qAT, *]))
  have r2:r.mode=3:=r2
  by_cases r3:qBm val=true
  rotate_left
  ·rw [Bool.not_eq_true] at r3
   rw [r3] at hNv
   refine hNv.eq rfl ?_
   exact qAF _ rfl rfl (qAN (by simp [qAT, *]))
  rw [r3] at hNv
  refine hNv.eq rfl ?_
  by_cases r4:qBm n=true
  rotate_left
  ·rw [Bool.not_eq_true] at r4
   rw [r4] at hNn
   refine hNn.eq rfl ?_
   exact qAF _ rfl rfl (qAN (by simp [qAT, *]))
  rw [r4] at hNn
  refine hNn.eq rfl ?_
  refine QAD (fun r5=>?_) (fun r5=>?_)
  rotate_left
  ·have r5:¬ (1:Int)<=rel:=r5
   exact qAF _ rfl rfl (qAN (by simp [qAT, *]))
  have r5:(1:Int)<=rel:=r5
  refine QAD (fun r6=>?_) (fun r6=>?_)
  rotate_left
  ·have r6:¬ rel<=4:=r6
   exact qAF _ rfl rfl (qAN (by simp [qAT, *]))
  have r6:rel<=4:=r6
  refine QAD (fun r9=>?_) (fun r9=>?_)
  rotate_left
  ·have r9:¬ ((st.map i64).length:Int)=0:=r9
   have r9:¬ st=[]:=fun e=>r9 (by rw [e];rfl)
   exact qAF _ rfl rfl (qAN (by simp [qAT, *]))
  have r9:((st.map i64).length:Int)=0:=r9
  have r9:st=[]:=by rw [List.length_map] at r9;exact List.length_eq_zero_iff.1 (by omega)
  exact qAF _ rfl rfl (qAN (by simp [qAT, *]))
 have o5:op=5:=o5
 have hno:qHO st=false->qAT op n rel val r st=false:=fun h=>by simp [qAT, *]
 refine QAD (fun h1=>?_) (fun h1=>?_)
 ·have h1:((st.map i64).length:Int)<1:=h1
  rw [hm] at h1
  exact qAF _ rfl rfl (qAN (hno (by rw [qHO,decide_eq_false (by omega)];rfl)).symm)
 have h1:¬ ((st.map i64).length:Int)<1:=h1
 rw [hm] at h1
 refine QAD (fun h2=>?_) (fun h2=>?_)
 ·have h2:(8:Int)<((st.map i64).length:Nat):=h2
  rw [hm] at h2
  exact qAF _ rfl rfl (qAN (hno (by rw [qHO,decide_eq_false (show ¬ st.length<=8 by omega),Bool.and_false];rfl)).symm)
 have h2:¬ (8:Int)<((st.map i64).length:Nat):=h2
 rw [hm] at h2
 have hB0:qHO st=qPS st (st.length - 0) 0:=by rw [qHO,decide_eq_true (show 1<=st.length by omega),decide_eq_true (show st.length<=8 by omega)];rfl
 refine⟨Nat,fun k=>[(1, .ptr 0 0 0),(3, .p (i64 k))],fun _=>⟨1,[(0,cO ((Cd.mk op n rel val r st ar).cells.map .p))]⟩,fun k=>k<=st.length/\qHO st=qPS st (st.length - k) k,fun k=>st.length - k,?_,?_⟩
 ·exact⟨0,⟨Nat.zero_le _,hB0⟩,qAC [] [] [] rfl (sk) (sk) rfl⟩
 rintro k ⟨k1,k2⟩
 clear hB0
 refine QAD (fun h3=>?_) (fun h3=>?_)
 rotate_left
 ·have h3:¬ (k:Int)<((st.map i64).length:Nat):=h3
  rw [hm] at h3
  rw [show st.length - k=0 by omega,qPS] at k2
  by_cases r1:qBp r=true
  rotate_left
  ·rw [Bool.not_eq_true] at r1
   rw [r1] at hRf
   refine hRf.eq rfl ?_
   exact qAF _ rfl rfl (qAN (by simp [qAT, *]))
  rw [r1] at hRf
  refine hRf.eq rfl ?_
  refine QAD (fun r2=>?_) (fun r2=>?_)
  rotate_left
  ·have r2:¬ n=0:=r2
   exact qAF _ rfl rfl (qAN (by simp [qAT, *]))
  have r2:n=0:=r2
  refine QAD (fun r3=>?_) (fun r3=>?_)
  rotate_left
  ·have r3:¬ rel=0:=r3
   exact qAF _ rfl rfl (qAN (by simp [qAT, *]))
  have r3:rel=0:=r3
  refine QAD (fun r4=>?_) (fun r4=>?_)
  rotate_left
  ·have r4:¬ val=0:=r4
   exact qAF _ rfl rfl (qAN (by simp [qAT, *]))
  have r4:val=0:=r4
  exact qAF _ rfl rfl (qAN (by simp [qAT, *]))
 have h3:(k:Int)<((st.map i64).length:Nat):=h3
 rw [hm] at h3
 have hk:k<st.length:=by omega
 obtain⟨f,hf⟩:∃ f,st.length - k=f+1:=⟨st.length - k - 1,by omega⟩
 rw [hf,qPS] at k2
 refine VDraw.seq rfl ?_
 refine⟨_,⟨by omega,i64 (st.getD k 0),qEW hk,rfl⟩,?_⟩
 have hN:=qEc (st.getD k 0)
 by_cases n1:qBm (st.getD k 0)=true
 rotate_left
 ·rw [Bool.not_eq_true] at n1
  rw [n1] at hN k2
  refine hN.eq rfl ?_
  exact qAF _ rfl rfl (qAN (hno (by rw [k2];simp)).symm)
 rw [n1] at hN k2
 refine hN.eq rfl ?_
 refine QAD (fun h4=>?_) (fun h4=>?_)
 ·have h4:(0:Int)<(k:Nat):=h4
  obtain⟨j,rfl⟩:∃ j,k=j+1:=⟨k - 1,by omega⟩
  refine⟨_,⟨by omega,i64 (st.getD (j+1) 0),qEW hk,rfl⟩,?_⟩
  refine⟨(j:Int),by rw [show((j+1:Nat):Int) - 1=(j:Int) by omega];exact w6z,?_⟩
  refine⟨_,⟨by omega,i64 (st.getD j 0),qEW (by omega),rfl⟩,?_⟩
  refine QAD (fun h5=>?_) (fun h5=>?_)
  ·have h5:st.getD (j+1) 0<=st.getD j 0:=h5
   exact qAF _ rfl rfl (qAN (hno (by rw [k2,Nat.add_sub_cancel,decide_eq_false (show ¬ st.getD j 0<st.getD (j+1) 0 by omega),decide_eq_false (by omega)];rfl)).symm)
  ·have h5:¬ st.getD (j+1) 0<=st.getD j 0:=h5
   refine⟨_,w6z,?_⟩
   exact⟨j+1+1,⟨by omega,by rw [k2,Nat.add_sub_cancel,decide_eq_true (show st.getD j 0<st.getD (j+1) 0 by omega),Bool.or_true,show st.length - (j+1+1)=f by omega];rfl⟩,qAC [] [] [] rfl (sk) (sk) rfl,by show st.length - (j+1+1)<st.length - (j+1);omega⟩
 ·have h4:¬ (0:Int)<(k:Nat):=h4
  have hk0:k=0:=by omega
  subst hk0
  refine⟨_,w6z,?_⟩
  exact⟨0+1,⟨by omega,by rw [k2,show st.length - (0+1)=f by omega];rfl⟩,qAC [] [] [] rfl (sk) (sk) rfl,by show st.length - (0+1)<st.length - 0;omega⟩
def qYh:Option Nat->Int
 | some l=>(l:Int)
 | none=>-1
def qYB (d:Nat):Prop:=∀ (c:Cd) (left p:Nat),qCq c->left<=1000->p+d=9->Pure cx 162 [c.pv,i64 left,i64 p] (·=.ret [i64 (qYh (qAp d c left))])
theorem qSQ {r:Rf} (h4:r.cells=rf0.cells):r=rf0:=by
 obtain⟨a,b,c,d⟩:=r
 simp only [Rf.cells,rf0,List.cons.injEq,PV.str.injEq,PV.int.injEq,true_and,and_true] at h4
 obtain⟨rfl,rfl,rfl,rfl⟩:=h4
 rfl
theorem qVK (d:Nat) (ih:qYB d):qYB (d+1):=by
 rintro⟨op,n,rel,val,r,st,ar⟩ left p hb hl hp9
 simp only [qCq] at hb
 obtain⟨hb1,hb2,hb3,hb4⟩:=hb
 have hT:=qUK op n rel val r st ar hb1 hb2
 have epv:(Cd.mk op n rel val r st ar).pv=.agg [i64 op,i64 n,i64 rel,i64 val, .str r.name,i64 r.mode, .str r.plate,i64 r.n,ints st,cds ar]:=by
  show PV.agg [i64 op,i64 n,i64 rel,i64 val, .str r.name,i64 r.mode, .str r.plate,i64 r.n,ints st, .lsts 10 (qBV ar)]=_
  rw [qBr]
 rw [epv] at hT ⊢
 generalize hR:qAp (d+1) (.mk op n rel val r st ar) left=R
 rw [qAp] at hR
 refine qAB Tryz.func162 rfl rfl rfl ?_
 rcases Nat.eq_zero_or_pos left with h0 | h0
 ·subst h0
  rw [if_pos rfl] at hR
  refine And.intro (fun _=>?_) (fun h=>absurd (show(0:Int)<1 by decide) h)
  exact qAF _ rfl rfl (qDz (by rw [<- hR];rfl))
 obtain⟨m,rfl⟩:∃ m,left=m+1:=⟨left - 1,by omega⟩
 rw [if_neg (by omega),Nat.add_sub_cancel] at hR
 have hno:qAb op n rel val r st ar.length=false->R=none:=fun h=>by rw [<- hR,if_neg (by rw [h];decide)]
 have hyes:qAb op n rel val r st ar.length=true->ar.foldlM (fun l c=>qAp d c l) m=R:=fun h=>by rw [<- hR,if_pos h]
 clear hR
 refine And.intro (fun h=>absurd (show((m+1:Nat):Int)<1 from h) (by omega)) (fun _=>?_)
 refine And.intro (fun h=>absurd (show(8:Int)<(p:Nat) from h) (by omega)) (fun _=>?_)
 refine QAD (fun o7=>?_) (fun o7=>?_)
 ·have o7:op=7:=o7
  by_cases hk:ar.length=1
  rotate_left
  ·refine And.intro (fun h=>absurd (show((ar.map Cd.cells).length:Int)=1 from h) (by rw [List.length_map];omega)) (fun _=>?_)
   exact qAF _ rfl rfl (qDz (by rw [hno (by simp [qAb,qAc, *])];rfl))
  refine And.intro (fun _=>?_) (fun h=>absurd (show((ar.map Cd.cells).length:Int)=1 by rw [List.length_map];omega) h)
  refine And.intro (fun h=>absurd (show(1:Int)=0 from h) (by decide)) (fun _=>?_)
  refine And.intro (fun r1=>?_) (fun r1=>?_)
  rotate_left
  ·have r1:¬ n=0:=r1
   exact qAF _ rfl rfl (qDz (by rw [hno (by simp [qAb,qAc,qA0, *])];rfl))
  have r1:n=0:=r1
  refine And.intro (fun r2=>?_) (fun r2=>?_)
  rotate_left
  ·have r2:¬ rel=0:=r2
   exact qAF _ rfl rfl (qDz (by rw [hno (by simp [qAb,qAc,qA0, *])];rfl))
  have r2:rel=0:=r2
  refine And.intro (fun r3=>?_) (fun r3=>?_)
  rotate_left
  ·have r3:¬ val=0:=r3
   exact qAF _ rfl rfl (qDz (by rw [hno (by simp [qAb,qAc,qA0, *])];rfl))
  have r3:val=0:=r3
  refine⟨⟨by kernel_rfl,by kernel_rfl⟩,fun r4=>?_,fun r4=>?_⟩
  rotate_left
  ·have r4:¬ r=rf0:=fun e=>r4 (by rw [e];rfl)
   exact qAF _ rfl rfl (qDz (by rw [hno (by simp [qAb,qAc,qA0, *])];rfl))
  have r4:r=rf0:=qSQ (by first | exact r4 | (injection r4))
  refine And.intro (fun r5=>?_) (fun r5=>?_)
  rotate_left
  ·have r5:¬ ((st.map i64).length:Int)=0:=r5
   have r5:¬ st=[]:=fun e=>r5 (by rw [e];rfl)
   exact qAF _ rfl rfl (qDz (by rw [hno (by simp [qAb,qAc,qA0, *])];rfl))
  have r5:((st.map i64).length:Int)=0:=r5
  have r5:st=[]:=by rw [List.length_map] at r5;exact List.length_eq_zero_iff.1 (by omega)
  have hy:=hyes (by simp [qAb,qAc,qA0, *])
  refine⟨(m:Int),by rw [show((m+1:Nat):Int) - 1=(m:Int) by omega];exact w6z,?_⟩
  refine⟨Nat × Nat,fun x=>[(1, .p (i64 x.2)),(2, .p (i64 p)),(3, .ptr 0 0 0),(7, .p (i64 1)),(8, .p (i64 x.1))],fun x=>⟨1,[(0,cO [.p (i64 op), .p (i64 n), .p (i64 rel), .p (i64 val), .p (.str r.name), .p (i64 r.mode), .p (.str r.plate), .p (i64 r.n), .p (ints st), .p (cds ar)])]⟩,fun x=>x.1<=ar.length/\x.2<=1000/\(ar.drop x.1).foldlM (fun l c=>qAp d c l) x.2=R,fun x=>ar.length - x.1,?_,?_⟩
  ·exact⟨(0,m),⟨Nat.zero_le _,by simp only [];omega,hy⟩,qAC [] [] [] rfl (sk) (sk) rfl⟩
  rintro⟨i,l⟩ ⟨i1,i2,i3⟩
  simp only [] at i1 i2 i3
  refine QAD (fun j1=>?_) (fun j1=>?_)
  rotate_left
  ·have j1:¬ (i:Int)<1:=j1
   rw [List.drop_eq_nil_of_le (by omega),List.foldlM_nil] at i3
   exact qAF _ rfl rfl (qDz (by rw [<- i3];rfl))
  have j1:(i:Int)<1:=j1
  have hi:i<ar.length:=by omega
  rw [qE9 cd0 hi,List.foldlM_cons] at i3
  have hbx:=qBS hb4 (qAJ cd0 hi)
  have hcell:=qDM hi
  rcases hx:ar.getD i cd0 with ⟨o',n',rl',vl',rf',st',ar'⟩
  rw [hx] at i3 hbx hcell
  refine⟨_,⟨by omega,(Cd.mk o' n' rl' vl' rf' st' ar').cells,hcell,rfl⟩,?_⟩
  refine⟨((p+1:Nat):Int),w6z,?_⟩
  have hrec:=ih (.mk o' n' rl' vl' rf' st' ar') l (p+1) hbx (by omega) (by omega)
  rcases hv:qAp d (.mk o' n' rl' vl' rf' st' ar') l with _ | l2
  ·rw [hv] at hrec i3
   refine hrec.eq rfl ?_
   refine And.intro (fun _=>?_) (fun h=>absurd (show(-1:Int)<0 by decide) h)
   exact qAF _ rfl rfl (qDz (by rw [<- i3];rfl))
  ·have hle:=qB4 _ _ _ _ hv
   rw [hv] at hrec i3
   refine hrec.eq rfl ?_
   refine And.intro (fun h=>absurd (show(l2:Int)<0 from h) (by omega)) (fun _=>?_)
   refine⟨_,w6z,?_⟩
   exact⟨(i+1,l2),⟨by simp only [];omega,by simp only [];omega,i3⟩,qAC [] [] [] rfl (sk) (sk) rfl,by show ar.length - (i+1)<ar.length - i;omega⟩
 have o7:¬ op=7:=o7
 refine QAD (fun o8=>?_) (fun o8=>?_)
 ·have o8:op=8:=o8
  by_cases hk:ar.length=2
  rotate_left
  ·refine And.intro (fun h=>absurd (show((ar.map Cd.cells).length:Int)=2 from h) (by rw [List.length_map];omega)) (fun _=>?_)
   exact qAF _ rfl rfl (qDz (by rw [hno (by simp [qAb,qAc, *])];rfl))
  refine And.intro (fun _=>?_) (fun h=>absurd (show((ar.map Cd.cells).length:Int)=2 by rw [List.length_map];omega) h)
  refine And.intro (fun h=>absurd (show(2:Int)=0 from h) (by decide)) (fun _=>?_)
  refine And.intro (fun r1=>?_) (fun r1=>?_)
  rotate_left
  ·have r1:¬ n=0:=r1
   exact qAF _ rfl rfl (qDz (by rw [hno (by simp [qAb,qAc,qA0, *])];rfl))
  have r1:n=0:=r1
  refine And.intro (fun r2=>?_) (fun r2=>?_)
  rotate_left
  ·have r2:¬ rel=0:=r2
   exact qAF _ rfl rfl (qDz (by rw [hno (by simp [qAb,qAc,qA0, *])];rfl))
  have r2:rel=0:=r2
  refine And.intro (fun r3=>?_) (fun r3=>?_)
  rotate_left
  ·have r3:¬ val=0:=r3
   exact qAF _ rfl rfl (qDz (by rw [hno (by simp [qAb,qAc,qA0, *])];rfl))
  have r3:val=0:=r3
  refine⟨⟨by kernel_rfl,by kernel_rfl⟩,fun r4=>?_,fun r4=>?_⟩
  rotate_left
  ·have r4:¬ r=rf0:=fun e=>r4 (by rw [e];rfl)
   exact qAF _ rfl rfl (qDz (by rw [hno (by simp [qAb,qAc,qA0, *])];rfl))
  have r4:r=rf0:=qSQ (by first | exact r4 | (injection r4))
  refine And.intro (fun r5=>?_) (fun r5=>?_)
  rotate_left
  ·have r5:¬ ((st.map i64).length:Int)=0:=r5
   have r5:¬ st=[]:=fun e=>r5 (by rw [e];rfl)
   exact qAF _ rfl rfl (qDz (by rw [hno (by simp [qAb,qAc,qA0, *])];rfl))
  have r5:((st.map i64).length:Int)=0:=r5
  have r5:st=[]:=by rw [List.length_map] at r5;exact List.length_eq_zero_iff.1 (by omega)
  have hy:=hyes (by simp [qAb,qAc,qA0, *])
  refine⟨(m:Int),by rw [show((m+1:Nat):Int) - 1=(m:Int) by omega];exact w6z,?_⟩
  refine⟨Nat × Nat,fun x=>[(1, .p (i64 x.2)),(2, .p (i64 p)),(3, .ptr 0 0 0),(7, .p (i64 2)),(8, .p (i64 x.1))],fun x=>⟨1,[(0,cO [.p (i64 op), .p (i64 n), .p (i64 rel), .p (i64 val), .p (.str r.name), .p (i64 r.mode), .p (.str r.plate), .p (i64 r.n), .p (ints st), .p (cds ar)])]⟩,fun x=>x.1<=ar.length/\x.2<=1000/\(ar.drop x.1).foldlM (fun l c=>qAp d c l) x.2=R,fun x=>ar.length - x.1,?_,?_⟩
  ·exact⟨(0,m),⟨Nat.zero_le _,by simp only [];omega,hy⟩,qAC [] [] [] rfl (sk) (sk) rfl⟩
  rintro⟨i,l⟩ ⟨i1,i2,i3⟩
  simp only [] at i1 i2 i3
  refine QAD (fun j1=>?_) (fun j1=>?_)
  rotate_left
  ·have j1:¬ (i:Int)<2:=j1
   rw [List.drop_eq_nil_of_le (by omega),List.foldlM_nil] at i3
   exact qAF _ rfl rfl (qDz (by rw [<- i3];rfl))
  have j1:(i:Int)<2:=j1
  have hi:i<ar.length:=by omega
  rw [qE9 cd0 hi,List.foldlM_cons] at i3
  have hbx:=qBS hb4 (qAJ cd0 hi)
  have hcell:=qDM hi
  rcases hx:ar.getD i cd0 with ⟨o',n',rl',vl',rf',st',ar'⟩
  rw [hx] at i3 hbx hcell
  refine⟨_,⟨by omega,(Cd.mk o' n' rl' vl' rf' st' ar').cells,hcell,rfl⟩,?_⟩
  refine⟨((p+1:Nat):Int),w6z,?_⟩
  have hrec:=ih (.mk o' n' rl' vl' rf' st' ar') l (p+1) hbx (by omega) (by omega)
  rcases hv:qAp d (.mk o' n' rl' vl' rf' st' ar') l with _ | l2
  ·rw [hv] at hrec i3
   refine hrec.eq rfl ?_
   refine And.intro (fun _=>?_) (fun h=>absurd (show(-1:Int)<0 by decide) h)
   exact qAF _ rfl rfl (qDz (by rw [<- i3];rfl))
  ·have hle:=qB4 _ _ _ _ hv
   rw [hv] at hrec i3
   refine hrec.eq rfl ?_
   refine And.intro (fun h=>absurd (show(l2:Int)<0 from h) (by omega)) (fun _=>?_)
   refine⟨_,w6z,?_⟩
   exact⟨(i+1,l2),⟨by simp only [];omega,by simp only [];omega,i3⟩,qAC [] [] [] rfl (sk) (sk) rfl,by show ar.length - (i+1)<ar.length - i;omega⟩
 have o8:¬ op=8:=o8
 refine QAD (fun o9=>?_) (fun o9=>?_)
 ·have o9:op=9:=o9
  by_cases hk:ar.length=2
  rotate_left
  ·refine And.intro (fun h=>absurd (show((ar.map Cd.cells).length:Int)=2 from h) (by rw [List.length_map];omega)) (fun _=>?_)
   exact qAF _ rfl rfl (qDz (by rw [hno (by simp [qAb,qAc, *])];rfl))
  refine And.intro (fun _=>?_) (fun h=>absurd (show((ar.map Cd.cells).length:Int)=2 by rw [List.length_map];omega) h)
  refine And.intro (fun h=>absurd (show(2:Int)=0 from h) (by decide)) (fun _=>?_)
  refine And.intro (fun r1=>?_) (fun r1=>?_)
  rotate_left
  ·have r1:¬ n=0:=r1
   exact qAF _ rfl rfl (qDz (by rw [hno (by simp [qAb,qAc,qA0, *])];rfl))
  have r1:n=0:=r1
  refine And.intro (fun r2=>?_) (fun r2=>?_)
  rotate_left
  ·have r2:¬ rel=0:=r2
   exact qAF _ rfl rfl (qDz (by rw [hno (by simp [qAb,qAc,qA0, *])];rfl))
  have r2:rel=0:=r2
  refine And.intro (fun r3=>?_) (fun r3=>?_)
  rotate_left
  ·have r3:¬ val=0:=r3
   exact qAF _ rfl rfl (qDz (by rw [hno (by simp [qAb,qAc,qA0, *])];rfl))
  have r3:val=0:=r3
  refine⟨⟨by kernel_rfl,by kernel_rfl⟩,fun r4=>?_,fun r4=>?_⟩
  rotate_left
  ·have r4:¬ r=rf0:=fun e=>r4 (by rw [e];rfl)
   exact qAF _ rfl rfl (qDz (by rw [hno (by simp [qAb,qAc,qA0, *])];rfl))
  have r4:r=rf0:=qSQ (by first | exact r4 | (injection r4))
  refine And.intro (fun r5=>?_) (fun r5=>?_)
  rotate_left
  ·have r5:¬ ((st.map i64).length:Int)=0:=r5
   have r5:¬ st=[]:=fun e=>r5 (by rw [e];rfl)
   exact qAF _ rfl rfl (qDz (by rw [hno (by simp [qAb,qAc,qA0, *])];rfl))
  have r5:((st.map i64).length:Int)=0:=r5
  have r5:st=[]:=by rw [List.length_map] at r5;exact List.length_eq_zero_iff.1 (by omega)
  have hy:=hyes (by simp [qAb,qAc,qA0, *])
  refine⟨(m:Int),by rw [show((m+1:Nat):Int) - 1=(m:Int) by omega];exact w6z,?_⟩
  refine⟨Nat × Nat,fun x=>[(1, .p (i64 x.2)),(2, .p (i64 p)),(3, .ptr 0 0 0),(7, .p (i64 2)),(8, .p (i64 x.1))],fun x=>⟨1,[(0,cO [.p (i64 op), .p (i64 n), .p (i64 rel), .p (i64 val), .p (.str r.name), .p (i64 r.mode), .p (.str r.plate), .p (i64 r.n), .p (ints st), .p (cds ar)])]⟩,fun x=>x.1<=ar.length/\x.2<=1000/\(ar.drop x.1).foldlM (fun l c=>qAp d c l) x.2=R,fun x=>ar.length - x.1,?_,?_⟩
  ·exact⟨(0,m),⟨Nat.zero_le _,by simp only [];omega,hy⟩,qAC [] [] [] rfl (sk) (sk) rfl⟩
  rintro⟨i,l⟩ ⟨i1,i2,i3⟩
  simp only [] at i1 i2 i3
  refine QAD (fun j1=>?_) (fun j1=>?_)
  rotate_left
  ·have j1:¬ (i:Int)<2:=j1
   rw [List.drop_eq_nil_of_le (by omega),List.foldlM_nil] at i3
   exact qAF _ rfl rfl (qDz (by rw [<- i3];rfl))
  have j1:(i:Int)<2:=j1
  have hi:i<ar.length:=by omega
  rw [qE9 cd0 hi,List.foldlM_cons] at i3
  have hbx:=qBS hb4 (qAJ cd0 hi)
  have hcell:=qDM hi
  rcases hx:ar.getD i cd0 with ⟨o',n',rl',vl',rf',st',ar'⟩
  rw [hx] at i3 hbx hcell
  refine⟨_,⟨by omega,(Cd.mk o' n' rl' vl' rf' st' ar').cells,hcell,rfl⟩,?_⟩
  refine⟨((p+1:Nat):Int),w6z,?_⟩
  have hrec:=ih (.mk o' n' rl' vl' rf' st' ar') l (p+1) hbx (by omega) (by omega)
  rcases hv:qAp d (.mk o' n' rl' vl' rf' st' ar') l with _ | l2
  ·rw [hv] at hrec i3
   refine hrec.eq rfl ?_
   refine And.intro (fun _=>?_) (fun h=>absurd (show(-1:Int)<0 by decide) h)
   exact qAF _ rfl rfl (qDz (by rw [<- i3];rfl))
  ·have hle:=qB4 _ _ _ _ hv
   rw [hv] at hrec i3
   refine hrec.eq rfl ?_
   refine And.intro (fun h=>absurd (show(l2:Int)<0 from h) (by omega)) (fun _=>?_)
   refine⟨_,w6z,?_⟩
   exact⟨(i+1,l2),⟨by simp only [];omega,by simp only [];omega,i3⟩,qAC [] [] [] rfl (sk) (sk) rfl,by show ar.length - (i+1)<ar.length - i;omega⟩
 have o9:¬ op=9:=o9
 by_cases hk:ar.length=0
 rotate_left
 ·refine And.intro (fun h=>absurd (show((ar.map Cd.cells).length:Int)=0 from h) (by rw [List.length_map];omega)) (fun _=>?_)
  exact qAF _ rfl rfl (qDz (by rw [hno (by simp [qAb,qAc, *])];rfl))
 refine And.intro (fun _=>?_) (fun h=>absurd (show((ar.map Cd.cells).length:Int)=0 by rw [List.length_map];omega) h)
 refine And.intro (fun _=>?_) (fun h=>absurd rfl h)
 by_cases ht:qAT op n rel val r st=true
 rotate_left
 ·rw [Bool.not_eq_true] at ht
  rw [ht] at hT
  refine hT.eq rfl ?_
  exact qAF _ rfl rfl (qDz (by rw [hno (by simp [qAb,qAc, *])];rfl))
 rw [ht] at hT
 refine hT.eq rfl ?_
 have hy:=hyes (by simp [qAb,qAc, *])
 have har:ar=[]:=List.length_eq_zero_iff.1 hk
 rw [har,List.foldlM_nil] at hy
 refine⟨(m:Int),by rw [show((m+1:Nat):Int) - 1=(m:Int) by omega];exact w6z,?_⟩
 exact qAF _ rfl rfl (qDz (by rw [<- hy];rfl))
theorem qLP:∀ d,d<=8->qYB d
 | 0,_=>by
  rintro⟨op,n,rel,val,r,st,ar⟩ left p hb hl hp9
  refine qAB Tryz.func162 rfl rfl rfl ?_
  refine QAD (fun h1=>?_) (fun h1=>?_)
  ·exact qAF _ rfl rfl rfl
  ·refine And.intro (fun _=>?_) (fun h=>absurd (show(8:Int)<(p:Nat) by omega) h)
   exact qAF _ rfl rfl rfl
 | d+1,h=>qVK d (qLP d (by omega))
theorem qWR (op n rel val:Int) (r:Rf) (st:List Int) (ar:List Cd) (_hs:st.length<=9223372036854775807) (_ha:ar.length<=9223372036854775807):Pure cx 161 [(Cd.mk op n rel val r st ar).pv] (·=.ret [.bool (qE8 (.mk op n rel val r st ar))]):=by
 have epv:(Cd.mk op n rel val r st ar).pv=.agg [i64 op,i64 n,i64 rel,i64 val, .str r.name,i64 r.mode, .str r.plate,i64 r.n,ints st,cds ar]:=by
  show PV.agg [i64 op,i64 n,i64 rel,i64 val, .str r.name,i64 r.mode, .str r.plate,i64 r.n,ints st, .lsts 10 (qBV ar)]=_
  rw [qBr]
 rw [epv]
 refine qAB Tryz.func161 rfl rfl rfl ?_
 refine QAD (fun h0=>?_) (fun h0=>?_)
 rotate_left
 ·have h0:¬ op=0:=h0
  exact qAF _ rfl rfl (qAN (by simp [qE8,qA0, *]))
 have h0:op=0:=h0
 refine QAD (fun h1=>?_) (fun h1=>?_)
 rotate_left
 ·have h1:¬ n=0:=h1
  exact qAF _ rfl rfl (qAN (by simp [qE8,qA0, *]))
 have h1:n=0:=h1
 refine QAD (fun h2=>?_) (fun h2=>?_)
 rotate_left
 ·have h2:¬ rel=0:=h2
  exact qAF _ rfl rfl (qAN (by simp [qE8,qA0, *]))
 have h2:rel=0:=h2
 refine QAD (fun h3=>?_) (fun h3=>?_)
 rotate_left
 ·have h3:¬ val=0:=h3
  exact qAF _ rfl rfl (qAN (by simp [qE8,qA0, *]))
 have h3:val=0:=h3
 refine⟨⟨by kernel_rfl,by kernel_rfl⟩,fun h4=>?_,fun h4=>?_⟩
 rotate_left
 ·have h4:¬ r=rf0:=fun e=>h4 (by rw [e];rfl)
  exact qAF _ rfl rfl (qAN (by simp [qE8,qA0, *]))
 have h4:r=rf0:=qSQ (by first | exact h4 | (injection h4))
 refine QAD (fun h5=>?_) (fun h5=>?_)
 rotate_left
 ·have h5:¬ ((st.map i64).length:Int)=0:=h5
  have h5:¬ st=[]:=fun e=>h5 (by rw [e];rfl)
  exact qAF _ rfl rfl (qAN (by simp [qE8,qA0, *]))
 have h5:((st.map i64).length:Int)=0:=h5
 have h5:st=[]:=by rw [List.length_map] at h5;exact List.length_eq_zero_iff.1 (by omega)
 refine QAD (fun h6=>?_) (fun h6=>?_)
 ·have h6:((ar.map Cd.cells).length:Int)=0:=h6
  have h6:ar=[]:=by rw [List.length_map] at h6;exact List.length_eq_zero_iff.1 (by omega)
  exact qAF _ rfl rfl (qAN (by simp [qE8,qA0, *]))
 ·have h6:¬ ((ar.map Cd.cells).length:Int)=0:=h6
  have h6:¬ ar=[]:=fun e=>h6 (by rw [e];rfl)
  exact qAF _ rfl rfl (qAN (by simp [qE8,qA0, *]))
set_option maxHeartbeats 4000000
theorem qSY (l:List Cs) (hb:BigL l):Pure cx 119 [css l] (·=.ret [.bool (qBG l)]):=by
 refine qAB Tryz.func119 rfl rfl rfl ?_
 have hll:=hb.len
 have hm:(l.map Cs.cells).length=l.length:=List.length_map ..
 refine QAD (fun h1=>?_) (fun h1=>?_)
 ·have h1:((l.map Cs.cells).length:Int)<1:=h1
  rw [hm] at h1
  exact qAF _ rfl rfl (qAN (by rw [qBG,decide_eq_false (by omega)];rfl))
 have h1:¬ ((l.map Cs.cells).length:Int)<1:=h1
 rw [hm] at h1
 refine QAD (fun h2=>?_) (fun h2=>?_)
 ·have h2:(12:Int)<((l.map Cs.cells).length:Nat):=h2
  rw [hm] at h2
  exact qAF _ rfl rfl (qAN (by rw [qBG,decide_eq_false (show ¬ l.length<=12 by omega),Bool.and_false];rfl))
 have h2:¬ (12:Int)<((l.map Cs.cells).length:Nat):=h2
 rw [hm] at h2
 have hB0:qBG l=qBo (l.drop 0):=by rw [qBG,decide_eq_true (show 1<=l.length by omega),decide_eq_true (show l.length<=12 by omega)];rfl
 refine⟨Nat,fun i=>[(0, .p (css l)),(3, .p (i64 i))],fun _=>⟨0,[]⟩,fun i=>i<=l.length/\qBG l=qBo (l.drop i),fun i=>l.length - i,?_,?_⟩
 ·exact⟨0,⟨Nat.zero_le _,hB0⟩,qCA rfl ⟨rfl,rfl,trivial⟩ trivial rfl⟩
 rintro i ⟨i0,i2⟩
 clear hB0
 refine QAD (fun j1=>?_) (fun j1=>?_)
 rotate_left
 ·have j1:¬ (i:Int)<((l.map Cs.cells).length:Nat):=j1
  rw [hm] at j1
  rw [List.drop_eq_nil_of_le (by omega),qBo] at i2
  exact qAF _ rfl rfl (qAN i2.symm)
 have j1:(i:Int)<((l.map Cs.cells).length:Nat):=j1
 rw [hm] at j1
 have i1:i<l.length:=by omega
 have hmem:=qAJ cs0 i1
 have hbc:=hb.cond _ hmem
 have hbn:=hb.nums _ hmem
 have hcell:=qKv i1
 have hstep:=fun h=>qEG (l:=l) (i:=i) h
 have hlast:=fun h=>qEH (l:=l) (i:=i) h
 rcases hx:l.getD i cs0 with ⟨⟨op,n,rel,val,r,st,ar⟩,nums⟩
 rw [hx] at hbc hbn hcell hstep hlast
 simp only [] at hbc hbn hstep hlast
 have hno:qCS nums=false->qBG l=false:=fun h=>by
  rw [i2]
  rcases Nat.lt_or_ge (i+1) l.length with h3 | h3
  ·rw [hstep h3,h];rfl
  ·rw [hlast (by omega),h];rfl
 have hnm:(nums.map i64).length=nums.length:=List.length_map ..
 refine⟨_,⟨by omega,(⟨.mk op n rel val r st ar,nums⟩:Cs).cells,hcell,rfl⟩,?_⟩
 refine QAD (fun j2=>?_) (fun j2=>?_)
 ·have j2:((nums.map i64).length:Int)<1:=j2
  rw [hnm] at j2
  exact qAF _ rfl rfl (qAN (hno (by rw [qCS,decide_eq_false (by omega)];rfl)).symm)
 have j2:¬ ((nums.map i64).length:Int)<1:=j2
 rw [hnm] at j2
 refine⟨_,⟨by omega,(⟨.mk op n rel val r st ar,nums⟩:Cs).cells,hcell,rfl⟩,?_⟩
 refine QAD (fun j3=>?_) (fun j3=>?_)
 ·have j3:(8:Int)<((nums.map i64).length:Nat):=j3
  rw [hnm] at j3
  exact qAF _ rfl rfl (qAN (hno (by rw [qCS,decide_eq_false (show ¬ nums.length<=8 by omega),Bool.and_false];rfl)).symm)
 have j3:¬ (8:Int)<((nums.map i64).length:Nat):=j3
 rw [hnm] at j3
 refine⟨Nat,fun k=>[(0, .p (css l)),(3, .p (i64 i)),(4, .p (i64 k))],fun _=>⟨0,[]⟩,fun k=>k<=nums.length/\∀ x∈nums.take k,qGL x=true,fun k=>nums.length - k,?_,?_⟩
 ·exact⟨0,⟨Nat.zero_le _,by simp⟩,qCA rfl ⟨rfl,rfl,rfl,trivial⟩ trivial rfl⟩
 rintro k ⟨k1,k2⟩
 refine⟨_,⟨by omega,(⟨.mk op n rel val r st ar,nums⟩:Cs).cells,hcell,rfl⟩,?_⟩
 refine QAD (fun m1=>?_) (fun m1=>?_)
 ·have m1:(k:Int)<((nums.map i64).length:Nat):=m1
  rw [hnm] at m1
  have hk:k<nums.length:=by omega
  have bad:qGL (nums.getD k 0)=false->qBG l=false:=fun h=>hno (by rw [qCS,qLc 0 hk h,Bool.and_false])
  refine⟨_,⟨by omega,(⟨.mk op n rel val r st ar,nums⟩:Cs).cells,hcell,rfl⟩,?_⟩
  refine⟨_,⟨by omega,i64 (nums.getD k 0),qEW hk,rfl⟩,?_⟩
  refine QAD (fun m2=>?_) (fun m2=>?_)
  ·have m2:nums.getD k 0 < -9999:=m2
   exact qAF _ rfl rfl (qAN (bad (by rw [qGL,decide_eq_false (by omega)];rfl)).symm)
  have m2:¬ nums.getD k 0 < -9999:=m2
  refine⟨_,⟨by omega,(⟨.mk op n rel val r st ar,nums⟩:Cs).cells,hcell,rfl⟩,?_⟩
  refine⟨_,⟨by omega,i64 (nums.getD k 0),qEW hk,rfl⟩,?_⟩
  refine QAD (fun m3=>?_) (fun m3=>?_)
  ·have m3:(9999:Int)<nums.getD k 0:=m3
   exact qAF _ rfl rfl (qAN (bad (by rw [qGL,decide_eq_false (show ¬ nums.getD k 0<=9999 by omega),Bool.and_false])).symm)
  have m3:¬ (9999:Int)<nums.getD k 0:=m3
  refine⟨_,w6z,?_⟩
  refine⟨k+1,⟨by omega,fun x hx=>?_⟩,qCA rfl ⟨rfl,rfl,rfl,trivial⟩ trivial rfl,by show nums.length - (k+1)<nums.length - k;omega⟩
  rw [qAX 0 hk] at hx
  rcases List.mem_append.1 hx with hx | hx
  ·exact k2 x hx
  ·rw [List.mem_singleton.1 hx,qGL,decide_eq_true (by omega),decide_eq_true (by omega)];rfl
 have m1:¬ (k:Int)<((nums.map i64).length:Nat):=m1
 rw [hnm] at m1
 have hnums:qCS nums=true:=by
  have:nums.all qGL=true:=by
   rw [List.all_eq_true]
   rw [qBa (by omega)] at k2
   exact k2
  rw [qCS,this,decide_eq_true (by omega),decide_eq_true (by omega)];rfl
 refine⟨((l.length - 1:Nat):Int),by show _=IntKind.i64.wrap (((l.map Cs.cells).length:Int) - 1);rw [hm,show(l.length:Int) - 1=((l.length - 1:Nat):Int) by omega];exact w6z,?_⟩
 refine QAD (fun m4=>?_) (fun m4=>?_)
 ·have m4:(i:Int)=((l.length - 1:Nat):Int):=m4
  have hT:=hlast (by omega)
  rw [<- i2,hnums,Bool.true_and] at hT
  simp only [qCq] at hbc
  have hP:=qWR op n rel val r st ar hbc.2.1 hbc.2.2.1
  refine⟨_,⟨by omega,(⟨.mk op n rel val r st ar,nums⟩:Cs).cells,hcell,rfl⟩,?_⟩
  rw [<- hT] at hP
  by_cases p2:qBG l=true
  rotate_left
  ·rw [Bool.not_eq_true] at p2
   rw [p2] at hP
   refine hP.eq rfl ?_
   exact qAF _ rfl rfl (qAN p2.symm)
  rw [p2] at hP
  refine hP.eq rfl ?_
  refine⟨_,w6z,?_⟩
  exact⟨i+1,⟨by omega,by rw [p2,List.drop_eq_nil_of_le (by omega)];rfl⟩,qCA rfl ⟨rfl,rfl,trivial⟩ trivial rfl,by show l.length - (i+1)<l.length - i;omega⟩
 have m4:¬ (i:Int)=((l.length - 1:Nat):Int):=m4
 have hT:=hstep (by omega)
 rw [<- i2,hnums,Bool.true_and] at hT
 have hC:=qLP 8 (Nat.le_refl _) (.mk op n rel val r st ar) 30 1 hbc (by omega) (by omega)
 refine⟨_,⟨by omega,(⟨.mk op n rel val r st ar,nums⟩:Cs).cells,hcell,rfl⟩,?_⟩
 rcases hv:qAp 8 (.mk op n rel val r st ar) 30 with _ | k2
 ·rw [hv] at hC hT
  refine hC.eq rfl ?_
  refine And.intro (fun _=>?_) (fun h=>absurd (show(-1:Int)<0 by decide) h)
  exact qAF _ rfl rfl (qAN (by rw [hT];rfl))
 ·rw [hv] at hC hT
  refine hC.eq rfl ?_
  refine And.intro (fun h=>absurd (show(k2:Int)<0 from h) (by omega)) (fun _=>?_)
  refine⟨_,w6z,?_⟩
  exact⟨i+1,⟨by omega,by rw [hT];rfl⟩,qCA rfl ⟨rfl,rfl,trivial⟩ trivial rfl,by show l.length - (i+1)<l.length - i;omega⟩
theorem qUL (l:List Rf) (hl:l.length<=9223372036854775807) (hb:∀ r∈l,BigR r):Pure cx 117 [qBw l] (·=.ret [.bool (decide (l.length<=8) && l.all qBp)]):=by
 refine qAB Tryz.func117 rfl rfl rfl ?_
 have hm:(l.map Rf.cells).length=l.length:=List.length_map ..
 refine⟨Nat,fun k=>[(0, .p (qBw l)),(3, .p (i64 k))],fun _=>⟨0,[]⟩,fun k=>k<=l.length/\∀ x∈l.take k,qBp x=true,fun k=>l.length - k,?_,?_⟩
 ·exact⟨0,⟨Nat.zero_le _,by simp⟩,qCA rfl ⟨rfl,rfl,trivial⟩ trivial rfl⟩
 rintro k ⟨k1,k2⟩
 refine QAD (fun m1=>?_) (fun m1=>?_)
 ·have m1:(k:Int)<((l.map Rf.cells).length:Nat):=m1
  rw [hm] at m1
  have hk:k<l.length:=by omega
  refine⟨_,⟨by omega,(l.getD k rf0).cells,qIW hk,rfl⟩,?_⟩
  have hR:=qTX (l.getD k rf0) (hb _ (qAJ rf0 hk))
  by_cases r1:qBp (l.getD k rf0)=true
  rotate_left
  ·rw [Bool.not_eq_true] at r1
   rw [r1] at hR
   refine hR.eq rfl ?_
   exact qAF _ rfl rfl (qAN (by rw [qLc rf0 hk r1,Bool.and_false]))
  rw [r1] at hR
  refine hR.eq rfl ?_
  refine⟨_,w6z,?_⟩
  refine⟨k+1,⟨by omega,fun x hx=>?_⟩,qCA rfl ⟨rfl,rfl,trivial⟩ trivial rfl,by show l.length - (k+1)<l.length - k;omega⟩
  rw [qAX rf0 hk] at hx
  rcases List.mem_append.1 hx with hx | hx
  ·exact k2 x hx
  ·rw [List.mem_singleton.1 hx];exact r1
 have m1:¬ (k:Int)<((l.map Rf.cells).length:Nat):=m1
 rw [hm] at m1
 rw [qBa (by omega)] at k2
 have ha:l.all qBp=true:=List.all_eq_true.2 k2
 refine QAD (fun m2=>?_) (fun m2=>?_)
 ·have m2:((l.map Rf.cells).length:Int)<=8:=m2
  rw [hm] at m2
  exact qAF _ rfl rfl (qAN (by rw [ha,decide_eq_true (by omega)];rfl))
 ·have m2:¬ ((l.map Rf.cells).length:Int)<=8:=m2
  rw [hm] at m2
  exact qAF _ rfl rfl (qAN (by rw [decide_eq_false (by omega)];rfl))
theorem qUW (d:De) (hb:BigD d):Pure cx 74 [d.pv] (·=.ret [.bool (qBh d)]):=by
 refine qAB Tryz.func74 rfl rfl rfl ?_
 have hN:=qEc d.n
 have hF:=qUL d.refs hb.len hb.refs
 have hI:=qHt d.name hb.name
 have hJ:=qHt d.plate hb.plate
 have hC:=qSY d.cases hb.cases
 have hrl:=hb.len
 have hcl:=hb.cases.len
 clear hb
 by_cases n1:qBm d.n=true
 rotate_left
 ·rw [Bool.not_eq_true] at n1
  rw [n1] at hN
  refine hN.eq rfl ?_
  exact qAF _ rfl rfl (qAN (by rw [qBh,n1];rfl))
 rw [n1] at hN
 refine hN.eq rfl ?_
 by_cases n2:(decide (d.refs.length<=8) && d.refs.all qBp)=true
 rotate_left
 ·rw [Bool.not_eq_true] at n2
  rw [n2] at hF
  refine hF.eq rfl ?_
  exact qAF _ rfl rfl (qAN (by rw [qBh,n1,Bool.true_and,n2];rfl))
 rw [n2] at hF
 refine hF.eq rfl ?_
 have hfin:qBh d=qAs d:=by rw [qBh,n1,Bool.true_and,n2];rfl
 clear hF hN n1 n2
 refine And.intro (fun q1=>?_) (fun q1=>?_)
 ·have q1:d.plate=[]:=q1
  by_cases p1:qAo d.name=true
  rotate_left
  ·have p1':=p1
   rw [Bool.not_eq_true] at p1
   rw [p1] at hI
   refine hI.eq rfl ?_
   refine QAD (fun o1=>?_) (fun o1=>?_)
   ·have o1:d.kind=1:=o1
    refine QAD (fun p2=>?_) (fun p2=>?_)
    rotate_left
    ·have p2:¬ d.name=[]:=p2
     exact qAF _ rfl rfl (qAN (by simp [qAs, *]))
    have p2:d.name=[]:=p2
    refine QAD (fun p3=>?_) (fun p3=>?_)
    rotate_left
    ·have p3:¬ ((d.refs.map Rf.cells).length:Int)=0:=p3
     have p3:¬ d.refs=[]:=fun e=>p3 (by rw [e];rfl)
     exact qAF _ rfl rfl (qAN (by simp [qAs, *]))
    have p3:((d.refs.map Rf.cells).length:Int)=0:=p3
    have p3:d.refs=[]:=by rw [List.length_map] at p3;exact List.length_eq_zero_iff.1 (by omega)
    refine QAD (fun p4=>?_) (fun p4=>?_)
    rotate_left
    ·have p4:¬ ((d.cases.map Cs.cells).length:Int)=0:=p4
     have p4:¬ d.cases=[]:=fun e=>p4 (by rw [e];rfl)
     exact qAF _ rfl rfl (qAN (by simp [qAs, *]))
    have p4:((d.cases.map Cs.cells).length:Int)=0:=p4
    have p4:d.cases=[]:=by rw [List.length_map] at p4;exact List.length_eq_zero_iff.1 (by omega)
    exact qAF _ rfl rfl (qAN (by simp [qAs, *]))
   have o1:¬ d.kind=1:=o1
   refine QAD (fun o2=>?_) (fun o2=>?_)
   ·have o2:d.kind=2:=o2
    exact qAF _ rfl rfl (qAN (by simp [qAs, *]))
   have o2:¬ d.kind=2:=o2
   refine QAD (fun o3=>?_) (fun o3=>?_)
   ·have o3:d.kind=3:=o3
    exact qAF _ rfl rfl (qAN (by simp [qAs, *]))
   have o3:¬ d.kind=3:=o3
   refine QAD (fun o4=>?_) (fun o4=>?_)
   ·have o4:d.kind=4:=o4
    exact qAF _ rfl rfl (qAN (by simp [qAs, *]))
   have o4:¬ d.kind=4:=o4
   refine QAD (fun o5=>?_) (fun o5=>?_)
   ·have o5:d.kind=5:=o5
    refine QAD (fun p2=>?_) (fun p2=>?_)
    rotate_left
    ·have p2:¬ d.name=[]:=p2
     exact qAF _ rfl rfl (qAN (by simp [qAs, *]))
    have p2:d.name=[]:=p2
    refine QAD (fun p3=>?_) (fun p3=>?_)
    rotate_left
    ·have p3:¬ d.n=0:=p3
     exact qAF _ rfl rfl (qAN (by simp [qAs, *]))
    have p3:d.n=0:=p3
    refine hC.eq rfl ?_
    exact qAF _ rfl rfl (qAN (by simp [qAs, *]))
   have o5:¬ d.kind=5:=o5
   exact qAF _ rfl rfl (qAN (by simp [qAs, *]))
  rw [p1] at hI
  refine hI.eq rfl ?_
  refine QAD (fun o1=>?_) (fun o1=>?_)
  ·have o1:d.kind=1:=o1
   refine QAD (fun p2=>?_) (fun p2=>?_)
   rotate_left
   ·have p2:¬ d.name=[]:=p2
    exact qAF _ rfl rfl (qAN (by simp [qAs, *]))
   have p2:d.name=[]:=p2
   refine QAD (fun p3=>?_) (fun p3=>?_)
   rotate_left
   ·have p3:¬ ((d.refs.map Rf.cells).length:Int)=0:=p3
    have p3:¬ d.refs=[]:=fun e=>p3 (by rw [e];rfl)
    exact qAF _ rfl rfl (qAN (by simp [qAs, *]))
   have p3:((d.refs.map Rf.cells).length:Int)=0:=p3
   have p3:d.refs=[]:=by rw [List.length_map] at p3;exact List.length_eq_zero_iff.1 (by omega)
   refine QAD (fun p4=>?_) (fun p4=>?_)
   rotate_left
   ·have p4:¬ ((d.cases.map Cs.cells).length:Int)=0:=p4
    have p4:¬ d.cases=[]:=fun e=>p4 (by rw [e];rfl)
    exact qAF _ rfl rfl (qAN (by simp [qAs, *]))
   have p4:((d.cases.map Cs.cells).length:Int)=0:=p4
   have p4:d.cases=[]:=by rw [List.length_map] at p4;exact List.length_eq_zero_iff.1 (by omega)
   exact qAF _ rfl rfl (qAN (by simp [qAs, *]))
  have o1:¬ d.kind=1:=o1
  refine QAD (fun o2=>?_) (fun o2=>?_)
  ·have o2:d.kind=2:=o2
   refine QAD (fun p3=>?_) (fun p3=>?_)
   rotate_left
   ·have p3:¬ ((d.refs.map Rf.cells).length:Int)=0:=p3
    have p3:¬ d.refs=[]:=fun e=>p3 (by rw [e];rfl)
    exact qAF _ rfl rfl (qAN (by simp [qAs, *]))
   have p3:((d.refs.map Rf.cells).length:Int)=0:=p3
   have p3:d.refs=[]:=by rw [List.length_map] at p3;exact List.length_eq_zero_iff.1 (by omega)
   refine QAD (fun p4=>?_) (fun p4=>?_)
   rotate_left
   ·have p4:¬ ((d.cases.map Cs.cells).length:Int)=0:=p4
    have p4:¬ d.cases=[]:=fun e=>p4 (by rw [e];rfl)
    exact qAF _ rfl rfl (qAN (by simp [qAs, *]))
   have p4:((d.cases.map Cs.cells).length:Int)=0:=p4
   have p4:d.cases=[]:=by rw [List.length_map] at p4;exact List.length_eq_zero_iff.1 (by omega)
   exact qAF _ rfl rfl (qAN (by simp [qAs, *]))
  have o2:¬ d.kind=2:=o2
  refine QAD (fun o3=>?_) (fun o3=>?_)
  ·have o3:d.kind=3:=o3
   refine hC.eq rfl ?_
   exact qAF _ rfl rfl (qAN (by simp [qAs, *]))
  have o3:¬ d.kind=3:=o3
  refine QAD (fun o4=>?_) (fun o4=>?_)
  ·have o4:d.kind=4:=o4
   refine QAD (fun p4=>?_) (fun p4=>?_)
   rotate_left
   ·have p4:¬ ((d.cases.map Cs.cells).length:Int)=0:=p4
    have p4:¬ d.cases=[]:=fun e=>p4 (by rw [e];rfl)
    exact qAF _ rfl rfl (qAN (by simp [qAs, *]))
   have p4:((d.cases.map Cs.cells).length:Int)=0:=p4
   have p4:d.cases=[]:=by rw [List.length_map] at p4;exact List.length_eq_zero_iff.1 (by omega)
   exact qAF _ rfl rfl (qAN (by simp [qAs, *]))
  have o4:¬ d.kind=4:=o4
  refine QAD (fun o5=>?_) (fun o5=>?_)
  ·have o5:d.kind=5:=o5
   refine QAD (fun p2=>?_) (fun p2=>?_)
   rotate_left
   ·have p2:¬ d.name=[]:=p2
    exact qAF _ rfl rfl (qAN (by simp [qAs, *]))
   have p2:d.name=[]:=p2
   refine QAD (fun p3=>?_) (fun p3=>?_)
   rotate_left
   ·have p3:¬ d.n=0:=p3
    exact qAF _ rfl rfl (qAN (by simp [qAs, *]))
   have p3:d.n=0:=p3
   refine hC.eq rfl ?_
   exact qAF _ rfl rfl (qAN (by simp [qAs, *]))
  have o5:¬ d.kind=5:=o5
  exact qAF _ rfl rfl (qAN (by simp [qAs, *]))
 have q1:¬ d.plate=[]:=q1
 refine And.intro (fun q2=>?_) (fun q2=>?_)
 rotate_left
 ·have q2:¬ d.kind=3:=q2
  exact qAF _ rfl rfl (qAN (by simp [qAs, *]))
 have q2:d.kind=3:=q2
 by_cases q3:qAo d.plate=true
 rotate_left
 ·rw [Bool.not_eq_true] at q3
  rw [q3] at hJ
  refine hJ.eq rfl ?_
  exact qAF _ rfl rfl (qAN (by simp [qAs, *]))
 rw [q3] at hJ
 refine hJ.eq rfl ?_
 by_cases p1:qAo d.name=true
 rotate_left
 ·rw [Bool.not_eq_true] at p1
  rw [p1] at hI
  refine hI.eq rfl ?_
  refine And.intro (fun h=>absurd (show d.kind=1 from h) (by omega)) (fun _=>?_)
  refine And.intro (fun h=>absurd (show d.kind=2 from h) (by omega)) (fun _=>?_)
  refine And.intro (fun _=>?_) (fun h=>absurd q2 h)
  exact qAF _ rfl rfl (qAN (by simp [qAs, *]))
 rw [p1] at hI
 refine hI.eq rfl ?_
 refine And.intro (fun h=>absurd (show d.kind=1 from h) (by omega)) (fun _=>?_)
 refine And.intro (fun h=>absurd (show d.kind=2 from h) (by omega)) (fun _=>?_)
 refine And.intro (fun _=>?_) (fun h=>absurd q2 h)
 refine hC.eq rfl ?_
 exact qAF _ rfl rfl (qAN (by simp [qAs, *]))
theorem qUb (ds:List De) (hb:BigP ds):Pure cx 46 [qCT ds] (·=.ret [.bool (qBP ds)]):=by
 refine qAB Tryz.func46 rfl rfl rfl ?_
 have hl:=hb.len
 have hm:(ds.map De.cells).length=ds.length:=List.length_map ..
 have hfin:∀ k,k<=ds.length->(30<k∨k=ds.length)->(∀ x∈ds.take k,qBh x=true)->qBP ds=decide (ds.length<=30):=fun k h1 h2 h3=>by
  rcases h2 with h2 | h2
  ·rw [qBP,decide_eq_false (show ¬ ds.length<=30 by omega)];rfl
  ·rw [qBa (by omega)] at h3
   rw [qBP,List.all_eq_true.2 h3,Bool.and_true]
 refine⟨Nat,fun k=>[(1, .ptr 0 0 0),(3, .p (i64 k))],fun _=>⟨1,[(0,srO (.p (des ds)))]⟩,fun k=>k<=ds.length/\k<=31/\∀ x∈ds.take k,qBh x=true,fun k=>ds.length - k,?_,?_⟩
 ·exact⟨0,⟨Nat.zero_le _,by omega,by simp⟩,qAC [] [] [] rfl (sk) (sk) rfl⟩
 rintro k ⟨k1,k3,k2⟩
 refine QAD (fun m1=>?_) (fun m1=>?_)
 ·have m1:(k:Int)<((ds.map De.cells).length:Nat):=m1
  rw [hm] at m1
  have hk:k<ds.length:=by omega
  refine QAD (fun m2=>?_) (fun m2=>?_)
  ·have m2:(k:Int)<=30:=m2
   refine⟨_,⟨by omega,(ds.getD k de0).cells,qIJ hk,rfl⟩,?_⟩
   have hR:=qUW (ds.getD k de0) (hb.decl _ (qAJ de0 hk))
   by_cases r1:qBh (ds.getD k de0)=true
   rotate_left
   ·rw [Bool.not_eq_true] at r1
    rw [r1] at hR
    refine hR.eq rfl ?_
    exact qAF _ rfl rfl (qAN (by rw [qBP,qLc de0 hk r1,Bool.and_false]))
   rw [r1] at hR
   refine hR.eq rfl ?_
   refine⟨_,w6z,?_⟩
   refine⟨k+1,⟨by omega,by omega,fun x hx=>?_⟩,qAC [] [] [] rfl (sk) (sk) rfl,by show ds.length - (k+1)<ds.length - k;omega⟩
   rw [qAX de0 hk] at hx
   rcases List.mem_append.1 hx with hx | hx
   ·exact k2 x hx
   ·rw [List.mem_singleton.1 hx];exact r1
  ·have m2:¬ (k:Int)<=30:=m2
   refine And.intro (fun h=>?_) (fun h=>?_)
   ·have h:((ds.map De.cells).length:Int)<=30:=h
    rw [hm] at h
    omega
   ·exact qAF _ rfl rfl (qAN (by rw [hfin k k1 (.inl (by omega)) k2,decide_eq_false (by omega)]))
 ·have m1:¬ (k:Int)<((ds.map De.cells).length:Nat):=m1
  rw [hm] at m1
  refine And.intro (fun h=>?_) (fun h=>?_)
  ·have h:((ds.map De.cells).length:Int)<=30:=h
   rw [hm] at h
   exact qAF _ rfl rfl (qAN (by rw [hfin k k1 (.inr (by omega)) k2,decide_eq_true (by omega)]))
  ·have h:¬ ((ds.map De.cells).length:Int)<=30:=h
   rw [hm] at h
   exact qAF _ rfl rfl (qAN (by rw [hfin k k1 (.inr (by omega)) k2,decide_eq_false (by omega)]))
theorem qWG (ds:List De) (hb:BigP ds):Pure cx 16 [qCT ds] (·=.ret [i64 (qRd ds)]):=by
 have h:=qUb ds hb
 refine qAB Tryz.func16 rfl rfl rfl ?_
 by_cases hv:qBP ds=true
 ·rw [hv] at h
  refine h.eq rfl ?_
  exact qAF _ rfl rfl (qDz (by rw [qRd,hv];rfl))
 ·rw [Bool.not_eq_true] at hv
  rw [hv] at h
  refine h.eq rfl ?_
  exact qAF _ rfl rfl (qDz (by rw [qRd,hv];rfl))
noncomputable def cb (p:Prop):Bool:=@decide p (Classical.propDecidable p)
theorem qR3 {p:Prop} (h:p):cb p=true:=by unfold cb;exact @decide_eq_true p (Classical.propDecidable p) h
theorem qHK {p:Prop} (h:¬ p):cb p=false:=by unfold cb;exact @decide_eq_false p (Classical.propDecidable p) h
theorem qEY {α:Type} {a b:List α} {k:Nat} (d:α) (ha:k<a.length) (hb:k<b.length) (h:a.take k=b.take k) (he:a.getD k d=b.getD k d):a.take (k+1)=b.take (k+1):=by
 rw [qAX d ha,qAX d hb,h,he]
theorem qFr {α:Type} {a b:List α} {k:Nat} (hl:a.length=b.length) (hk:¬ k<a.length) (h:a.take k=b.take k):a=b:=by
 rw [qBa (by omega),qBa (by omega)] at h;exact h
theorem qPt (a b:List Int) (_ha:a.length<=9223372036854775807) (hb:b.length<=9223372036854775807):Pure cx 58 [ints a,ints b] (·=.ret [.bool (cb (a=b))]):=by
 have ha':(a.map i64).length=a.length:=List.length_map ..
 have hb':(b.map i64).length=b.length:=List.length_map ..
 refine qAB Tryz.func58 rfl rfl rfl ?_
 refine And.intro (fun h1=>?_) (fun h1=>?_)
 rotate_left
 ·have h1:¬ ((a.map i64).length:Int)=((b.map i64).length:Nat):=h1
  rw [ha',hb'] at h1
  exact qAF _ rfl rfl (by rw [qHK (fun e=>h1 (by rw [e]))])
 have h1:((a.map i64).length:Int)=((b.map i64).length:Nat):=h1
 rw [ha',hb'] at h1
 have hl:a.length=b.length:=by omega
 refine⟨Nat,fun k=>[(0, .p (ints a)),(1, .p (ints b)),(5, .p (i64 k))],fun _=>⟨0,[]⟩,fun k=>k<=a.length/\a.take k=b.take k,fun k=>a.length - k,?_,?_⟩
 ·exact⟨0,⟨Nat.zero_le _,rfl⟩,qAC [] [] [] rfl (sk) (sk) rfl⟩
 rintro k ⟨k1,k2⟩
 refine And.intro (fun m1=>?_) (fun m1=>?_)
 rotate_left
 ·have m1:¬ (k:Int)<((a.map i64).length:Nat):=m1
  rw [ha'] at m1
  exact qAF _ rfl rfl (by rw [qR3 (qFr hl (by omega) k2)])
 have m1:(k:Int)<((a.map i64).length:Nat):=m1
 rw [ha'] at m1
 have hk:k<a.length:=by omega
 refine VDraw.seq rfl ?_
 refine⟨_,⟨by omega,i64 (a.getD k 0),qEW hk,rfl⟩,?_⟩
 refine⟨_,⟨by omega,i64 (b.getD k 0),qEW (by omega),rfl⟩,?_⟩
 refine And.intro (fun m2=>?_) (fun m2=>?_)
 ·have m2:a.getD k 0=b.getD k 0:=m2
  refine⟨_,w6z,?_⟩
  exact⟨k+1,⟨hk,qEY 0 hk (by omega) k2 m2⟩,qAC [] [] [] rfl (sk) (sk) rfl,by show a.length - (k+1)<a.length - k;omega⟩
 ·have m2:¬ a.getD k 0=b.getD k 0:=m2
  exact qAF _ rfl rfl (by rw [qHK (fun e=>m2 (by rw [e]))])
mutual
def csz:Cd->Nat
 | .mk _ _ _ _ _ _ ar=>qXP ar+1
def qXP:List Cd->Nat
 | []=>0
 | c::r=>csz c+qXP r
end
theorem qRV:∀ {l:List Cd} {c:Cd},c∈l->csz c<=qXP l
 | [],_,h=>by simp at h
 | x::l,c,h=>by
  rw [qXP]
  rcases List.mem_cons.1 h with rfl | h
  ·omega
  ·have:=qRV h;omega
theorem qTY {a b:Rf} (h:a.cells=b.cells):a=b:=by
 obtain⟨n,m,p,k⟩:=a
 obtain⟨n',m',p',k'⟩:=b
 injection h with h1 h
 injection h with h2 h
 injection h with h3 h
 injection h with h4 h
 injection h1 with h1
 injection h2 with _ h2
 injection h3 with h3
 injection h4 with _ h4
 subst h1 h2 h3 h4
 rfl
def qX5 (n:Nat):Prop:=∀ a b:Cd,csz a<=n->qCq a->qCq b->Pure cx 57 [a.pv,b.pv] (·=.ret [.bool (cb (a=b))])
theorem qKZ {o n r v o' n' r' v':Int} {rf rf':Rf} {st st':List Int} {ar ar':List Cd}:(Cd.mk o n r v rf st ar=.mk o' n' r' v' rf' st' ar') ↔ (o=o'/\n=n'/\r=r'/\v=v'/\rf=rf'/\st=st'/\ar=ar'):=by
 constructor
 ·intro h;injection h with h1 h2 h3 h4 h5 h6 h7;exact⟨h1,h2,h3,h4,h5,h6,h7⟩
 ·rintro⟨rfl,rfl,rfl,rfl,rfl,rfl,rfl⟩;rfl
theorem qPy (m:Nat) (ih:qX5 m):qX5 (m+1):=by
 intro a b hz hA hB
 obtain⟨o,n,r,v,rf,st,ar⟩:=a
 obtain⟨o',n',r',v',rf',st',ar'⟩:=b
 have hA1:=hA
 have hB1:=hB
 rw [qCq] at hA1 hB1
 obtain⟨_,a2,a3,a4⟩:=hA1
 obtain⟨_,b2,b3,b4⟩:=hB1
 have hI:=qPt st st' a2 b2
 have hla:(qBV ar).length=ar.length:=by rw [qBr,List.length_map]
 have hlb:(qBV ar').length=ar'.length:=by rw [qBr,List.length_map]
 rw [csz] at hz
 refine qAB Tryz.func57 rfl rfl rfl ?_
 refine And.intro (fun h1=>?_) (fun h1=>qAF _ rfl rfl (by rw [qHK (fun e=>h1 (qKZ.1 e).1)]))
 have h1:o=o':=h1
 refine And.intro (fun h2=>?_) (fun h2=>qAF _ rfl rfl (by rw [qHK (fun e=>h2 (qKZ.1 e).2.1)]))
 have h2:n=n':=h2
 refine And.intro (fun h3=>?_) (fun h3=>qAF _ rfl rfl (by rw [qHK (fun e=>h3 (qKZ.1 e).2.2.1)]))
 have h3:r=r':=h3
 refine And.intro (fun h4=>?_) (fun h4=>qAF _ rfl rfl (by rw [qHK (fun e=>h4 (qKZ.1 e).2.2.2.1)]))
 have h4:v=v':=h4
 refine⟨⟨by kernel_rfl,by kernel_rfl⟩,fun h5=>?_,fun h5=>?_⟩
 rotate_left
 ·exact qAF _ rfl rfl (by rw [qHK (fun e=>h5 (by rw [(qKZ.1 e).2.2.2.2.1]))])
 have h5:rf=rf':=qTY (by first | exact h5 | (injection h5))
 by_cases h6:st=st'
 rotate_left
 ·rw [qHK h6] at hI
  refine hI.eq rfl ?_
  exact qAF _ rfl rfl (by rw [qHK (fun e=>h6 (qKZ.1 e).2.2.2.2.2.1)])
 rw [qR3 h6] at hI
 refine hI.eq rfl ?_
 refine And.intro (fun h7=>?_) (fun h7=>?_)
 rotate_left
 ·have h7:¬ ((qBV ar).length:Int)=((qBV ar').length:Nat):=h7
  rw [hla,hlb] at h7
  exact qAF _ rfl rfl (by rw [qHK (fun e=>h7 (by rw [(qKZ.1 e).2.2.2.2.2.2]))])
 have h7:((qBV ar).length:Int)=((qBV ar').length:Nat):=h7
 rw [hla,hlb] at h7
 have hl:ar.length=ar'.length:=by omega
 refine⟨Nat,fun k=>[(2, .ptr 0 0 0),(3, .ptr 1 0 0),(5, .p (i64 k))],fun _=>⟨2,[(1,cO ((Cd.mk o' n' r' v' rf' st' ar').cells.map .p)),(0,cO ((Cd.mk o n r v rf st ar).cells.map .p))]⟩,fun k=>k<=ar.length/\ar.take k=ar'.take k,fun k=>ar.length - k,?_,?_⟩
 ·exact⟨0,⟨Nat.zero_le _,rfl⟩,qAC [] [] [] rfl (sk) (sk) rfl⟩
 rintro k ⟨k1,k2⟩
 refine And.intro (fun m1=>?_) (fun m1=>?_)
 rotate_left
 ·have m1:¬ (k:Int)<((qBV ar).length:Nat):=m1
  rw [hla] at m1
  exact qAF _ rfl rfl (by rw [qR3 (qKZ.2 ⟨h1,h2,h3,h4,h5,h6,qFr hl (by omega) k2⟩)])
 have m1:(k:Int)<((qBV ar).length:Nat):=m1
 rw [hla] at m1
 have hk:k<ar.length:=by omega
 have hk':k<ar'.length:=by omega
 have c1:=qDM hk
 have c2:=qDM hk'
 rw [<- qBr] at c1 c2
 have hm:=qAJ cd0 hk
 have hm':=qAJ cd0 hk'
 have hs:=ih (ar.getD k cd0) (ar'.getD k cd0) (by have:=qRV hm;omega) (qBS a4 hm) (qBS b4 hm')
 have hn:=qEY cd0 hk hk' k2
 have hd:¬ ar.getD k cd0=ar'.getD k cd0->¬ ar=ar':=fun h e=>h (by rw [e])
 generalize ar.getD k cd0=x at c1 hs hn hd
 generalize ar'.getD k cd0=y at c2 hs hn hd
 have hxy:x=y∨¬ x=y:=Classical.em _
 obtain⟨x1,x2,x3,x4,x5,x6,x7⟩:=x
 obtain⟨y1,y2,y3,y4,y5,y6,y7⟩:=y
 refine VDraw.seq rfl ?_
 refine⟨_,⟨by omega,(Cd.mk x1 x2 x3 x4 x5 x6 x7).cells,c1,rfl⟩,?_⟩
 refine⟨_,⟨by omega,(Cd.mk y1 y2 y3 y4 y5 y6 y7).cells,c2,rfl⟩,?_⟩
 refine hxy.elim (fun e=>?_) (fun e=>?_)
 ·rw [qR3 e] at hs
  refine hs.eq rfl ?_
  refine⟨_,w6z,?_⟩
  exact⟨k+1,⟨hk,hn e⟩,qAC [] [] [] rfl (sk) (sk) rfl,by show ar.length - (k+1)<ar.length - k;omega⟩
 ·rw [qHK e] at hs
  refine hs.eq rfl ?_
  exact qAF _ rfl rfl (by rw [qHK (fun e2=>hd e (qKZ.1 e2).2.2.2.2.2.2)])
theorem qNQ:∀ n,qX5 n
 | 0=>fun a _ h=>by cases a;rw [csz] at h;omega
 | n+1=>qPy n (qNQ n)
theorem qUI (a b:Cd) (ha:qCq a) (hb:qCq b):Pure cx 57 [a.pv,b.pv] (·=.ret [.bool (cb (a=b))]):=qNQ _ a b (Nat.le_refl _) ha hb
def Out {α:Type} (b:Bool) (p:Nat) (r:Rd α) (a:α) (q:Nat) (b':Bool):Prop:=if b=true then b'=true/\q=p else r=if b'=true then .inl q else .inr (a,q)
theorem Out.then {α β:Type} {b b1 b2:Bool} {p q q2:Nat} {r:Rd α} {k:α->Nat->Rd β} {a:α} {c:β} (h:Out b p r a q b1) (h2:Out b1 q (k a q) c q2 b2):Out b p (r.then k) c q2 b2:=by
 cases b
 ·have h:r=if b1=true then .inl q else .inr (a,q):=h
  show r.then k=_
  cases b1
  ·rw [if_neg (by decide)] at h
   subst h
   exact h2
  ·rw [if_pos rfl] at h
   subst h
   obtain⟨rfl,rfl⟩:b2=true/\q2=q:=h2
   rfl
 ·obtain⟨rfl,rfl⟩:b1=true/\q=p:=h
  exact h2
theorem Out.bad {α:Type} {p:Nat} {r:Rd α} {a:α}:Out true p r a p true:=⟨rfl,rfl⟩
theorem Out.same {α:Type} {b:Bool} {p:Nat} {a:α}:Out b p (.inr (a,p)) a p b:=by
 cases b
 ·rfl
 ·exact⟨rfl,rfl⟩
theorem Out.ret {α:Type} {b:Bool} {p:Nat} {a a':α} (h:a=a'):Out b p (.inr (a,p)) a' p b:=by
 subst h;exact Out.same
abbrev Tk (ws:List Wd) (b:Bool) (q:Nat) (s:List UInt8):Prop:=b=false/\txt ws q=s
theorem Out.yes {α:Type} {c:Prop} [Decidable c] {b:Bool} {p q:Nat} {x y:Rd α} {a:α} {b':Bool} (h:b=false/\c) (hx:Out false p x a q b'):Out b p (if c then x else y) a q b':=by
 obtain⟨rfl,h⟩:=h
 rw [if_pos h];exact hx
theorem Out.no {α:Type} {c:Prop} [Decidable c] {b:Bool} {p q:Nat} {x y:Rd α} {a:α} {b':Bool} (h:¬ (b=false/\c)) (hy:Out b p y a q b'):Out b p (if c then x else y) a q b':=by
 cases b
 ·rw [if_neg (fun e=>h ⟨rfl,e⟩)];exact hy
 ·exact hy
theorem qWd {ws:List Wd} (hg:GoodW ws) {q:Nat} {s:List UInt8} (hs:s∈keysL++marksL) (h:txt ws q=s) (hn:s ≠ []):knd ws q=2∨knd ws q=4:=by
 have hr:=hg.at (qAi (ws:=ws) (q:=q) (by rw [h];exact hn))
 rw [h] at hr
 have key:∀ s∈keysL++marksL,qAo s=false/\qIY s=false:=by decide
 obtain⟨k1,k2⟩:=key s hs
 unfold qAk at hr
 split at hr
 ·rw [k1] at hr;cases hr
 ·split at hr
  ·rename_i h2;exact .inl h2
  ·split at hr
   ·rw [k2] at hr;cases hr
   ·split at hr
    ·rename_i h4;exact .inr h4
    ·cases hr
def rrO (ws:List Wd) (q:Nat) (b:Bool):AObj:=⟨129,false, .bx [.p (.lsts 4 (ws.map Wd.cells)), .p (i64 q), .p (.bool b)]⟩
abbrev rrH (ws:List Wd) (q:Nat) (b:Bool):Hp:=⟨1,[(0,rrO ws q b)]⟩
def isQ (ws:List Wd) (q:Nat) (b:Bool) (s:List UInt8) (e:AE) (H':Hp):Prop:=(Tk ws b q s->e=.returned (vB true)/\H'=rrH ws q b)/\(¬ Tk ws b q s->e=.returned (vB false)/\H'=rrH ws q b)
theorem qUy (ws:List Wd) (q:Nat) (b:Bool) (s:List UInt8) (hg:GoodW ws) (hq:q<=ws.length) (hs:s∈keysL++marksL) (hn:s ≠ []):HoldsG cx 136 [.ptr 0 0 0, .p (.str s)] (rrH ws q b) (isQ ws q b s):=by
 refine qAA Tryz.func136 rfl rfl rfl ?_
 have hl:=hg.len
 have hl':(ws.map Wd.cells).length=ws.length:=List.length_map ..
 cases b
 rotate_left
 ·refine VDraw.seq rfl ?_
  exact⟨[],[],[], .returned (vB false),rrH ws q true,rfl,sk,sk,fun h=>absurd h.1 (by decide),fun _=>⟨rfl,rfl⟩⟩
 refine VDraw.seq rfl ?_
 refine QAD (fun h1=>?_) (fun h1=>?_)
 rotate_left
 ·have h1:¬ (q:Int)<((ws.map Wd.cells).length:Nat):=h1
  rw [hl'] at h1
  exact⟨[],[],[], .returned (vB false),rrH ws q false,rfl,sk,sk,fun h=>absurd (qAi (ws:=ws) (q:=q) (by rw [h.2];exact hn)) (by omega),fun _=>⟨rfl,rfl⟩⟩
 have h1:(q:Int)<((ws.map Wd.cells).length:Nat):=h1
 rw [hl'] at h1
 have hlt:q<ws.length:=by omega
 refine⟨_,⟨by omega,(wat ws q).cells,qCi hlt,rfl⟩,?_⟩
 refine QAD (fun h2=>?_) (fun h2=>?_)
 rotate_left
 ·have h2:¬ txt ws q=s:=h2
  exact⟨[],[],[], .returned (vB false),rrH ws q false,rfl,sk,sk,fun h=>absurd h.2 h2,fun _=>⟨rfl,rfl⟩⟩
 have h2:txt ws q=s:=h2
 have hk:=qWd hg hs h2 hn
 refine⟨_,⟨by omega,(wat ws q).cells,qCi hlt,rfl⟩,?_⟩
 refine QAD (fun h3=>?_) (fun h3=>?_)
 ·exact⟨[],[],[], .returned (vB true),rrH ws q false,rfl,sk,sk,fun _=>⟨rfl,rfl⟩,fun h=>absurd ⟨rfl,h2⟩ h⟩
 have h3:¬ knd ws q=2:=h3
 refine⟨_,⟨by omega,(wat ws q).cells,qCi hlt,rfl⟩,?_⟩
 refine QAD (fun h4=>?_) (fun h4=>?_)
 ·exact⟨[],[],[], .returned (vB true),rrH ws q false,rfl,sk,sk,fun _=>⟨rfl,rfl⟩,fun h=>absurd ⟨rfl,h2⟩ h⟩
 ·have h4:¬ knd ws q=4:=h4
  omega
def tkQ (ws:List Wd) (q:Nat) (b:Bool) (s:List UInt8) (e:AE) (H':Hp):Prop:=(Tk ws b q s->e=.returned (vB true)/\H'=rrH ws (q+1) false)/\(¬ Tk ws b q s->e=.returned (vB false)/\H'=rrH ws q b)
theorem qAz (ws:List Wd) (q:Nat) (b:Bool) (s:List UInt8) (hg:GoodW ws) (hq:q<=ws.length) (hs:s∈keysL++marksL) (hn:s ≠ []):HoldsG cx 96 [.ptr 0 0 0, .p (.str s)] (rrH ws q b) (tkQ ws q b s):=by
 refine qAA Tryz.func96 rfl rfl rfl ?_
 have hl:=hg.len
 refine(qUy ws q b s hg hq hs hn).holds.mono fun e H' h=>?_
 by_cases c:Tk ws b q s
 ·obtain⟨rfl,rfl⟩:=h.1 c
  obtain⟨rfl,c2⟩:=c
  refine⟨_,w6z,?_⟩
  exact⟨[],[],[], .returned (vB true),rrH ws (q+1) false,rfl,sk,sk,fun _=>⟨rfl,rfl⟩,fun h=>absurd ⟨rfl,c2⟩ h⟩
 ·obtain⟨rfl,rfl⟩:=h.2 c
  exact⟨[],[],[], .returned (vB false),rrH ws q b,rfl,sk,sk,fun h=>absurd h c,fun _=>⟨rfl,rfl⟩⟩
def RQ {α:Type} (ws:List Wd) (b:Bool) (q:Nat) (r:Rd α) (val:α->AV) (e:AE) (H':Hp):Prop:=∃ a q' b',q'<=ws.length/\Out b q r a q' b'/\e=.returned (val a)/\H'=rrH ws q' b'
theorem qA9 (ws:List Wd) (q:Nat) (b:Bool) (s:List UInt8) (hg:GoodW ws) (hq:q<=ws.length) (hs:s∈keysL++marksL) (hn:s ≠ []):HoldsG cx 99 [.ptr 0 0 0, .p (.str s)] (rrH ws q b) (RQ ws b q (qBz ws s q) fun _=>und):=by
 refine qAA Tryz.func99 rfl rfl rfl ?_
 refine(qAz ws q b s hg hq hs hn).holds.mono fun e H' h=>?_
 by_cases c:Tk ws b q s
 ·obtain⟨rfl,rfl⟩:=h.1 c
  obtain⟨rfl,c2⟩:=c
  exact⟨[],[],[], .returned und,rrH ws (q+1) false,rfl,sk,sk,(),q+1,false,qAi (by rw [c2];exact hn),by show qBz ws s q=_;rw [qBz,if_pos c2];rfl,rfl,rfl⟩
 ·obtain⟨rfl,rfl⟩:=h.2 c
  refine⟨[],[],[], .returned und,rrH ws q true,rfl,sk,sk,(),q,true,hq,?_,rfl,rfl⟩
  cases b
  ·show qBz ws s q=.inl q
   rw [qBz,if_neg (fun e=>c ⟨rfl,e⟩)]
  ·exact Out.bad
def wdR (ws:List Wd) (k:Int) (q:Nat):Rd (List UInt8):=if knd ws q=k then .inr (txt ws q,q+1) else .inl q
theorem qTH (ws:List Wd) (q:Nat) (b:Bool) (k:Int) (hk:k ≠ 0) (hg:GoodW ws) (hq:q<=ws.length):HoldsG cx 137 [.ptr 0 0 0, .p (i64 k)] (rrH ws q b) fun e H'=>∃ a q' b',(q'<=ws.length/\(b'=true->a=[]))/\Out b q (wdR ws k q) a q' b'/\e=.returned (.p (.str a))/\H'=rrH ws q' b':=by
 refine qAA Tryz.func137 rfl rfl rfl ?_
 have hl:=hg.len
 have hl':(ws.map Wd.cells).length=ws.length:=List.length_map ..
 cases b
 rotate_left
 ·refine VDraw.seq rfl ?_
  exact⟨[],[],[], .returned (.p (.str [])),rrH ws q true,rfl,sk,sk,[],q,true,⟨hq,fun _=>rfl⟩,Out.bad,rfl,rfl⟩
 have no:¬ knd ws q=k->Out false q (wdR ws k q) [] q true:=fun h=>by
  show wdR ws k q=.inl q
  rw [wdR,if_neg h]
 refine VDraw.seq rfl ?_
 refine QAD (fun h1=>?_) (fun h1=>?_)
 ·have h1:((ws.map Wd.cells).length:Int)<=(q:Nat):=h1
  rw [hl'] at h1
  exact⟨[],[],[], .returned (.p (.str [])),rrH ws q true,rfl,sk,sk,[],q,true,⟨hq,fun _=>rfl⟩,no (fun e=>absurd (qF8 (ws:=ws) (q:=q) (by rw [e];exact hk)) (by omega)),rfl,rfl⟩
 have h1:¬ ((ws.map Wd.cells).length:Int)<=(q:Nat):=h1
 rw [hl'] at h1
 have hlt:q<ws.length:=by omega
 refine⟨_,⟨by omega,(wat ws q).cells,qCi hlt,rfl⟩,?_⟩
 refine QAD (fun h2=>?_) (fun h2=>?_)
 rotate_left
 ·have h2:¬ knd ws q=k:=h2
  exact⟨[],[],[], .returned (.p (.str [])),rrH ws q true,rfl,sk,sk,[],q,true,⟨hq,fun _=>rfl⟩,no h2,rfl,rfl⟩
 have h2:knd ws q=k:=h2
 refine⟨_,w6z,?_⟩
 refine VDraw.seq rfl ?_
 refine⟨(q:Int),by rw [show(q:Int)+1 - 1=(q:Int) by omega];exact w6z,?_⟩
 refine⟨_,⟨by omega,(wat ws q).cells,qCi hlt,rfl⟩,?_⟩
 exact⟨[],[],[], .returned (.p (.str (txt ws q))),rrH ws (q+1) false,rfl,sk,sk,txt ws q,q+1,false,⟨hlt,fun h=>by cases h⟩,by show wdR ws k q=_;rw [wdR,if_pos h2];rfl,rfl,rfl⟩
theorem qFR (ws:List Wd) (q:Nat) (b:Bool) (hg:GoodW ws) (hq:q<=ws.length):HoldsG cx 98 [.ptr 0 0 0] (rrH ws q b) (RQ ws b q (qCs ws q) fun t=>.p (.str t)):=by
 refine qAA Tryz.func98 rfl rfl rfl ?_
 refine(qTH ws q b 1 (by decide) hg hq).holds.mono fun e H' h=>?_
 obtain⟨a,q',b',⟨h1,_⟩,h2,rfl,rfl⟩:=h
 exact⟨[],[],[], .returned (.p (.str a)),rrH ws q' b',rfl,sk,sk,a,q',b',h1,h2,rfl,rfl⟩
theorem qUi (ws:List Wd) (q:Nat):qCw ws q=(wdR ws 3 q).then fun t q=>.inr (qJh t,q):=by
 rw [qCw,wdR]
 split <;> rfl
theorem qXU {s:List UInt8} {k:Nat} (h:k<s.length):s[k]?=some (s.getD k 0):=by
 rw [List.getD_eq_getElem?_getD,List.getElem?_eq_getElem h];rfl
theorem qDP (ws:List Wd) (q:Nat) (b:Bool) (hg:GoodW ws) (hq:q<=ws.length):HoldsG cx 97 [.ptr 0 0 0] (rrH ws q b) (RQ ws b q (qCw ws q) fun n=>.p (i64 n)):=by
 refine qAA Tryz.func97 rfl rfl rfl ?_
 refine(qTH ws q b 3 (by decide) hg hq).holds.mono fun e H' h=>?_
 obtain⟨t,q',b',⟨h1,hb⟩,h2,rfl,rfl⟩:=h
 have hdig:t.length<=4/\∀ c∈t,48<=c.toNat/\c.toNat<=57:=by
  cases b'
  ·cases b
   ·have h2:wdR ws 3 q=.inr (t,q'):=h2
    rw [wdR] at h2
    split at h2
    ·rename_i hk
     injection h2 with h2;injection h2 with h3 h4
     rw [<- h3]
     exact qMF (qQd hg hk)
    ·cases h2
   ·exact absurd h2.1 (by decide)
  ·rw [hb rfl];exact⟨by simp,by simp⟩
 obtain⟨ht4,hdg⟩:=hdig
 refine⟨Nat,fun k=>[(3, .p (.str t)),(4, .p (i64 (qJh (t.take k)))),(5, .p (i64 k))],fun _=>rrH ws q' b',fun k=>k<=t.length,fun k=>t.length - k,?_,?_⟩
 ·exact⟨0,Nat.zero_le _,qAC [] [] [] rfl (sk) (sk) rfl⟩
 intro k hk
 refine QAD (fun h3=>?_) (fun h3=>?_)
 ·have h3:(k:Int)<(t.length:Nat):=h3
  have hkt:k<t.length:=by omega
  obtain⟨c,hc⟩:∃ c,c=t.getD k 0:=⟨_,rfl⟩
  have hbd:=hdg c (by rw [hc];exact qAJ 0 hkt)
  have hv:=qFm hdg k hk
  have hp:(10:Int) ^ k<=10 ^ 4:=by
   rcases (show k=0∨k=1∨k=2∨k=3∨k=4 by omega) with rfl | rfl | rfl | rfl | rfl <;> decide
  have hp4:(10:Int) ^ 4=10000:=by decide
  refine⟨10 * qJh (t.take k),w6z,?_⟩
  refine⟨_,⟨by omega,c,by rw [hc];exact qXU hkt,rfl⟩,?_⟩
  refine⟨(c.toNat:Int) - 48,qXT (by omega) (by omega),?_⟩
  refine⟨(c.toNat:Int) - 48,w6z,?_⟩
  refine⟨qJh (t.take (k+1)),by rw [qAX 0 hkt,<- hc,qFn];exact w6z,?_⟩
  refine⟨_,w6z,?_⟩
  exact⟨k+1,hkt,qAC [] [] [] rfl (sk) (sk) rfl,by show t.length - (k+1)<t.length - k;omega⟩
 ·have h3:¬ (k:Int)<(t.length:Nat):=h3
  have hke:k=t.length:=by omega
  subst hke
  refine⟨[],[],[], .returned (.p (i64 (qJh t))),rrH ws q' b',rfl,⟨_,rfl,by rw [qBa (Nat.le_refl _)];rfl⟩,sk,qJh t,q',b',h1,?_,rfl,rfl⟩
  rw [qUi]
  exact h2.then Out.same
theorem Out.mv {α:Type} {p p' q:Nat} {r:Rd α} {a:α} {b':Bool} (h:Out false p r a q b'):Out false p' r a q b':=h
theorem qSO {ws:List Wd} {nm pl:List UInt8} {m n:Int} {b:Bool} {q q9:Nat} {b9:Bool} {u:Unit} (o:Out b q (qBz ws tRB q) u q9 b9):Out b q (qCa ws nm m pl n q) ⟨nm,m,pl,n⟩ q9 b9:=o.then Out.same
theorem qP6 (ws:List Wd) (q0:Nat) (b0:Bool) (hg:GoodW ws) (hq0:q0<=ws.length):HoldsG cx 138 [.ptr 0 0 0] (rrH ws q0 b0) (RQ ws b0 q0 (qIw ws q0) fun r=>.p r.pv):=by
 refine qAA Tryz.func138 rfl rfl rfl ?_
 have hl:=hg.len
 have hl':(ws.map Wd.cells).length=ws.length:=List.length_map ..
 refine(qFR ws q0 b0 hg hq0).holds.useT [] [] rfl (sk) (sk) fun e0 H0 hq=>?_
 obtain⟨nm,q1,b1,q1l,o1,rfl,rfl⟩:=hq
 refine⟨rfl,_,⟨2,(0,rrO ws q1 b1)::[(1,rO rf0)]⟩,rfl,rfl,?_⟩
 by_cases c1:Tk ws b1 q1 tLB
 rotate_left
 ·refine(qAz ws q1 b1 tLB hg q1l (by decide) (by decide)).holds.useT [] [] rfl (sk) (sk) fun e0 H0 hq=>?_
  obtain⟨rfl,rfl⟩:=hq.2 c1
  refine⟨rfl,_,⟨3,(0,rrO ws q1 b1)::[(2,rO ⟨nm,0,[],0⟩),(1,rO rf0)]⟩,rfl,rfl,?_⟩
  exact⟨[],[],[], .returned (.p (⟨nm,0,[],0⟩:Rf).pv),rrH ws q1 b1,rfl,sk,sk,⟨nm,0,[],0⟩,q1,b1,q1l,o1.then (Out.no c1 Out.same),rfl,rfl⟩
 have q2l:q1+1<=ws.length:=qAi (by rw [c1.2];decide)
 refine(qAz ws q1 b1 tLB hg q1l (by decide) (by decide)).holds.useT [] [] rfl (sk) (sk) fun e0 H0 hq=>?_
 obtain⟨rfl,rfl⟩:=hq.1 c1
 refine⟨rfl,_,⟨3,(0,rrO ws (q1+1) false)::[(2,rO ⟨nm,0,[],0⟩),(1,rO rf0)]⟩,rfl,rfl,?_⟩
 by_cases c2:Tk ws false (q1+1) qHN
 ·have q3l:q1+1+1<=ws.length:=qAi (by rw [c2.2];decide)
  refine(qAz ws (q1+1) false qHN hg q2l (by decide) (by decide)).holds.useT [] [] rfl (sk) (sk) fun e0 H0 hq=>?_
  obtain⟨rfl,rfl⟩:=hq.1 c2
  refine⟨rfl,_,⟨3,(0,rrO ws ((q1+1)+1) false)::[(2,rO ⟨nm,0,[],0⟩),(1,rO rf0)]⟩,rfl,rfl,?_⟩
  obtain⟨q3,hq3⟩:∃ q3,q3=q1+1+1:=⟨_,rfl⟩
  rw [<- hq3] at q3l
  rw [<- hq3]
  refine(qA9 ws q3 false tRB hg q3l (by decide) (by decide)).holds.useT [] [] rfl (sk) (sk) fun e0 H0 hq=>?_
  obtain⟨u,q9,b9,q9l,o9,rfl,rfl⟩:=hq
  refine⟨rfl,_,⟨3,(0,rrO ws q9 b9)::[(2,rO ⟨nm,3,[],0⟩),(1,rO rf0)]⟩,rfl,rfl,?_⟩
  exact⟨[],[],[], .returned (.p (⟨nm,3,[],0⟩:Rf).pv),rrH ws q9 b9,rfl,sk,sk,⟨nm,3,[],0⟩,q9,b9,q9l,(o1.then (Out.yes c1 (Out.yes c2 (by rw [show q1+2=q3 by omega];exact(qSO o9).mv (p':=q1))))),rfl,rfl⟩
 refine(qAz ws (q1+1) false qHN hg q2l (by decide) (by decide)).holds.useT [] [] rfl (sk) (sk) fun e0 H0 hq=>?_
 obtain⟨rfl,rfl⟩:=hq.2 c2
 refine⟨rfl,_,⟨3,(0,rrO ws (q1+1) false)::[(2,rO ⟨nm,0,[],0⟩),(1,rO rf0)]⟩,rfl,rfl,?_⟩
 by_cases c3:knd ws (q1+1)=3
 ·have hlt:q1+1<ws.length:=qF8 (by rw [c3];decide)
  refine VDraw.seq rfl ?_
  refine And.intro (fun _=>?_) (fun h=>absurd (show((q1+1:Nat):Int)<((ws.map Wd.cells).length:Nat) by rw [hl'];omega) h)
  refine⟨_,⟨by omega,(wat ws (q1+1)).cells,qCi hlt,rfl⟩,?_⟩
  refine And.intro (fun _=>?_) (fun h=>absurd c3 h)
  refine(qDP ws (q1+1) false hg q2l).holds.useT [] [] rfl (sk) (sk) fun e0 H0 hq=>?_
  obtain⟨n,q4,b4,q4l,o4,rfl,rfl⟩:=hq
  refine⟨rfl,_,⟨3,(0,rrO ws q4 b4)::[(2,rO ⟨nm,0,[],0⟩),(1,rO rf0)]⟩,rfl,rfl,?_⟩
  refine(qA9 ws q4 b4 tRB hg q4l (by decide) (by decide)).holds.useT [] [] rfl (sk) (sk) fun e0 H0 hq=>?_
  obtain⟨u,q9,b9,q9l,o9,rfl,rfl⟩:=hq
  refine⟨rfl,_,⟨3,(0,rrO ws q9 b9)::[(2,rO ⟨nm,2,[],n⟩),(1,rO rf0)]⟩,rfl,rfl,?_⟩
  exact⟨[],[],[], .returned (.p (⟨nm,2,[],n⟩:Rf).pv),rrH ws q9 b9,rfl,sk,sk,⟨nm,2,[],n⟩,q9,b9,q9l,(o1.then (Out.yes c1 (Out.no c2 (Out.yes ⟨rfl,c3⟩ (o4.then (qSO o9)))).mv)),rfl,rfl⟩
 have c3':¬ (false=false/\knd ws (q1+1)=3):=fun h=>c3 h.2
 have hb:∀ {r:Rf} {q9:Nat} {b9:Bool},Out false (q1+1) ((qCs ws (q1+1)).then fun pl q=>if txt ws q=qEU then(qCw ws (q+1)).then fun n q=>qCa ws nm 1 pl n q else qCa ws nm 1 pl 0 q) r q9 b9->Out b0 q0 (qIw ws q0) r q9 b9:=
  fun h=>o1.then (Out.yes c1 (Out.no c2 (Out.no c3' h)).mv)
 refine VDraw.seqTo [(0, .ptr 0 0 0),(2, .ptr 1 0 0),(3, .ptr 2 0 0),(24,vB false)] ⟨3,[(0,rrO ws (q1+1) false),(2,rO ⟨nm,0,[],0⟩),(1,rO rf0)]⟩ rfl ?_ ?_
 ·refine QAD (fun c4=>?_) (fun c4=>?_)
  ·have c4:((q1+1:Nat):Int)<((ws.map Wd.cells).length:Nat):=c4
   rw [hl'] at c4
   refine⟨_,⟨by omega,(wat ws (q1+1)).cells,qCi (by omega),rfl⟩,?_⟩
   refine And.intro (fun h=>absurd h c3) (fun _=>?_)
   exact qAC [] [] [] rfl (sk) (sk) rfl
  ·exact qAC [] [] [] rfl (sk) (sk) rfl
 refine(qFR ws (q1+1) false hg q2l).holds.useT [] [] rfl (sk) (sk) fun e0 H0 hq=>?_
 obtain⟨pl,q5,b5,q5l,o5,rfl,rfl⟩:=hq
 refine⟨rfl,_,⟨3,(0,rrO ws q5 b5)::[(2,rO ⟨nm,0,[],0⟩),(1,rO rf0)]⟩,rfl,rfl,?_⟩
 by_cases c6:Tk ws b5 q5 qEU
 ·have q6l:q5+1<=ws.length:=qAi (by rw [c6.2];decide)
  refine(qAz ws q5 b5 qEU hg q5l (by decide) (by decide)).holds.useT [] [] rfl (sk) (sk) fun e0 H0 hq=>?_
  obtain⟨rfl,rfl⟩:=hq.1 c6
  refine⟨rfl,_,⟨3,(0,rrO ws (q5+1) false)::[(2,rO ⟨nm,1,pl,0⟩),(1,rO rf0)]⟩,rfl,rfl,?_⟩
  refine(qDP ws (q5+1) false hg q6l).holds.useT [] [] rfl (sk) (sk) fun e0 H0 hq=>?_
  obtain⟨n,q7,b7,q7l,o7,rfl,rfl⟩:=hq
  refine⟨rfl,_,⟨3,(0,rrO ws q7 b7)::[(2,rO ⟨nm,1,pl,0⟩),(1,rO rf0)]⟩,rfl,rfl,?_⟩
  refine(qA9 ws q7 b7 tRB hg q7l (by decide) (by decide)).holds.useT [] [] rfl (sk) (sk) fun e0 H0 hq=>?_
  obtain⟨u,q9,b9,q9l,o9,rfl,rfl⟩:=hq
  refine⟨rfl,_,⟨3,(0,rrO ws q9 b9)::[(2,rO ⟨nm,1,pl,n⟩),(1,rO rf0)]⟩,rfl,rfl,?_⟩
  exact⟨[],[],[], .returned (.p (⟨nm,1,pl,n⟩:Rf).pv),rrH ws q9 b9,rfl,sk,sk,⟨nm,1,pl,n⟩,q9,b9,q9l,(hb (o5.then (Out.yes c6 (o7.then (qSO o9)).mv))),rfl,rfl⟩
 ·refine(qAz ws q5 b5 qEU hg q5l (by decide) (by decide)).holds.useT [] [] rfl (sk) (sk) fun e0 H0 hq=>?_
  obtain⟨rfl,rfl⟩:=hq.2 c6
  refine⟨rfl,_,⟨3,(0,rrO ws q5 b5)::[(2,rO ⟨nm,1,pl,0⟩),(1,rO rf0)]⟩,rfl,rfl,?_⟩
  refine(qA9 ws q5 b5 tRB hg q5l (by decide) (by decide)).holds.useT [] [] rfl (sk) (sk) fun e0 H0 hq=>?_
  obtain⟨u,q9,b9,q9l,o9,rfl,rfl⟩:=hq
  refine⟨rfl,_,⟨3,(0,rrO ws q9 b9)::[(2,rO ⟨nm,1,pl,0⟩),(1,rO rf0)]⟩,rfl,rfl,?_⟩
  exact⟨[],[],[], .returned (.p (⟨nm,1,pl,0⟩:Rf).pv),rrH ws q9 b9,rfl,sk,sk,⟨nm,1,pl,0⟩,q9,b9,q9l,(hb (o5.then (Out.no c6 (qSO o9)))),rfl,rfl⟩
def LK {α:Type} (b0:Bool) (q0:Nat) (R:Rd α) (go:Nat->Rd α) (n:Nat) (q:Nat) (b:Bool):Prop:=∃ f,(b=false->n - q<f)/\∀ l q' b',Out b q (go f) l q' b'->Out b0 q0 R l q' b'
theorem LK.stop {α:Type} {b0:Bool} {q0:Nat} {R:Rd α} {go:Nat->Rd α} {n q:Nat} {b:Bool} {l:α} (h:LK b0 q0 R go n q b) (hs:b=false->∀ f,go (f+1)=.inr (l,q)):Out b0 q0 R l q b:=by
 obtain⟨f,hf,hk⟩:=h
 refine hk l q b ?_
 cases b
 ·obtain⟨f,rfl⟩:∃ g,f=g+1:=⟨f - 1,by have:=hf rfl;omega⟩
  rw [hs rfl f];exact Out.same
 ·exact Out.bad
theorem LK.step {α:Type} {b0:Bool} {q0:Nat} {R:Rd α} {go go':Nat->Rd α} {n q q2:Nat} {b2:Bool} (h:LK b0 q0 R go n q false) (hs:∀ f l q' b',Out b2 q2 (go' f) l q' b'->Out false q (go (f+1)) l q' b') (hlt:b2=false->q<q2/\q2<=n):LK b0 q0 R go' n q2 b2:=by
 obtain⟨f,hf,hk⟩:=h
 obtain⟨f,rfl⟩:∃ g,f=g+1:=⟨f - 1,by have:=hf rfl;omega⟩
 refine⟨f,fun e=>?_,fun l q' b' ho=>hk l q' b' (hs f l q' b' ho)⟩
 have:=hf rfl
 have:=hlt e
 omega
theorem qBb {α:Type} {p q:Nat} {r:Rd α} {a:α} (h:Out false p r a q false):r=.inr (a,q):=h
theorem qJt (ws:List Wd) (F q0:Nat) (b0:Bool) (key:List UInt8) (hk:key∈keysL++marksL) (hkn:key ≠ []) (hF:ws.length<F) (hg:GoodW ws) (hq0:q0<=ws.length):HoldsG cx 100 [.ptr 0 0 0, .p (.str key)] (rrH ws q0 b0) (RQ ws b0 q0 (qE6 ws F key q0) fun l=>.p (qBw l)):=by
 refine qAA Tryz.func100 rfl rfl rfl ?_
 have hl:=hg.len
 by_cases c1:Tk ws b0 q0 key
 rotate_left
 ·refine(qAz ws q0 b0 key hg hq0 hk hkn).holds.useT [] [] rfl (sk) (sk) fun e0 H0 hq=>?_
  obtain⟨rfl,rfl⟩:=hq.2 c1
  refine⟨rfl,_,⟨1,(0,rrO ws q0 b0)::[]⟩,rfl,rfl,?_⟩
  exact⟨[],[],[], .returned (.p (qBw [])),rrH ws q0 b0,rfl,⟨_,rfl, .inr (.inr ⟨4,rfl⟩)⟩,sk,[],q0,b0,hq0,Out.no c1 Out.same,rfl,rfl⟩
 have q1l:q0+1<=ws.length:=qAi (by rw [c1.2];exact hkn)
 refine(qAz ws q0 b0 key hg hq0 hk hkn).holds.useT [] [] rfl (sk) (sk) fun e0 H0 hq=>?_
 obtain⟨rfl,rfl⟩:=hq.1 c1
 refine⟨rfl,_,⟨1,(0,rrO ws (q0+1) false)::[]⟩,rfl,rfl,?_⟩
 refine(qP6 ws (q0+1) false hg q1l).holds.useT [] [] rfl (sk) (sk) fun e0 H0 hq=>?_
 obtain⟨r0,q2,b2,q2l,o2,rfl,rfl⟩:=hq
 refine⟨rfl,_,⟨1,(0,rrO ws q2 b2)::[]⟩,rfl,rfl,?_⟩
 refine⟨List Rf × Nat × Bool,fun x=>[(0, .ptr 0 0 0),(5, .sl 1 4 0 x.1.length)],fun x=>⟨2,[(1,qKy x.1),(0,rrO ws x.2.1 x.2.2)]⟩,fun x=>x.2.1<=ws.length/\(x.2.2=false->x.1.length<=x.2.1)/\x.1.length<=1501/\LK b0 q0 (qE6 ws F key q0) (fun f=>qDf ws (qIw ws) f x.1 x.2.1) ws.length x.2.1 x.2.2,fun x=>if x.2.2=true then 0 else ws.length+1 - x.2.1,?_,?_⟩
 ·refine⟨([r0],q2,b2),⟨q2l,fun e=>?_,by simp,F,fun _=>by simp only [];omega,fun l q' b' ho=>Out.yes c1 (o2.then ho).mv⟩,qAC [] [] [] rfl (sk) (sk) rfl⟩
  simp only [] at e
  subst e
  have:=qG6 (qBb o2)
  simp only [List.length_singleton];omega
 rintro⟨acc,q,b⟩ ⟨k1,k2,k3,k4⟩
 simp only [] at k1 k2 k3 k4
 by_cases c:Tk ws b q qAv
 ·have ql:q+1<=ws.length:=qAi (by rw [c.2];decide)
  refine(qAz ws q b qAv hg k1 (by decide) (by decide)).holds.useT [] [] rfl (sk) (sk) fun e0 H0 hq=>?_
  obtain⟨rfl,rfl⟩:=hq.1 c
  refine⟨rfl,_,⟨2,(0,rrO ws (q+1) false)::[(1,qKy acc)]⟩,rfl,rfl,?_⟩
  refine(qP6 ws (q+1) false hg ql).holds.useT [] [] rfl (sk) (sk) fun e0 H0 hq=>?_
  obtain⟨r,q3,b3,q3l,o3,rfl,rfl⟩:=hq
  refine⟨rfl,_,⟨2,(0,rrO ws q3 b3)::[(1,qKy acc)]⟩,rfl,rfl,?_⟩
  have hal:=k2 c.1
  refine⟨by show 0+1<=1;omega,[r.cells],rfl,?_⟩
  refine⟨by show 0+acc.length<=(acc.map Rf.cells).length;simp,acc.map Rf.cells,qAD (by simp),by show(acc.length+1) * 48<=140737488355328;omega,(acc++[r]).map Rf.cells,by simp,?_⟩
  have hlt:b3=false->q+1<q3:=fun e=>by subst e;exact qG6 (qBb o3)
  have c':=c
  obtain⟨rfl,ct⟩:=c'
  exact⟨(acc++[r],q3,b3),⟨q3l,fun e=>by have:=hlt e;show(acc++[r]).length<=q3;rw [qAK];omega,by show(acc++[r]).length<=1501;rw [qAK];omega,k4.step (fun f l q' b' ho=>by rw [qDf];exact Out.yes ⟨rfl,ct⟩ (o3.then ho).mv) (fun e=>⟨by have:=hlt e;show q<q3;omega,q3l⟩)⟩,qAC [] [(1,3)] [] rfl ⟨⟨rfl,rfl⟩,congrArg (fun k:Nat=>AV.sl 3 4 0 k) (qAK acc r).symm,trivial⟩ (sk) rfl,by show(if b3=true then 0 else ws.length+1 - q3)<(if false=true then 0 else ws.length+1 - q);cases b3 <;> simp <;> (try have:=hlt rfl) <;> omega⟩
 ·refine(qAz ws q b qAv hg k1 (by decide) (by decide)).holds.useT [] [] rfl (sk) (sk) fun e0 H0 hq=>?_
  obtain⟨rfl,rfl⟩:=hq.2 c
  refine⟨rfl,_,⟨2,(0,rrO ws q b)::[(1,qKy acc)]⟩,rfl,rfl,?_⟩
  exact⟨[1],[],[], .returned (.p (qBw acc)),rrH ws q b,rfl,⟨_,rfl,⟨_,rfl,by show 0+acc.length<=(acc.map Rf.cells).length;simp,qAD (by simp)⟩⟩,sk,acc,q,b,k1,k4.stop (fun e f=>by rw [qDf,if_neg (fun h=>c ⟨e,h⟩)]),rfl,rfl⟩
def sgL:List (List UInt8):=[tEq,tNe,tLt,tLe]
def sg (i:Nat):List UInt8:=sgL.getD i []
theorem qXY:∀ i,i<4->sg i∈keysL++marksL/\sg i ≠ []
 | 0,_=>by decide
 | 1,_=>by decide
 | 2,_=>by decide
 | 3,_=>by decide
 | i+4,h=>by omega
theorem qUO {ws:List Wd} {q:Nat}:∀ {i:Nat},i<4->(∀ j,j<i->¬ txt ws q=sg j)->txt ws q=sg i->qJx ws q=.inr (((i+1:Nat):Int),q+1)
 | 0,_,_,h=>by rw [qJx,if_pos (show txt ws q=tEq from h)];rfl
 | 1,_,h0,h=>by rw [qJx,if_neg (show ¬ txt ws q=tEq from h0 0 (by omega)),if_pos (show txt ws q=tNe from h)];rfl
 | 2,_,h0,h=>by rw [qJx,if_neg (show ¬ txt ws q=tEq from h0 0 (by omega)),if_neg (show ¬ txt ws q=tNe from h0 1 (by omega)),if_pos (show txt ws q=tLt from h)];rfl
 | 3,_,h0,h=>by rw [qJx,if_neg (show ¬ txt ws q=tEq from h0 0 (by omega)),if_neg (show ¬ txt ws q=tNe from h0 1 (by omega)),if_neg (show ¬ txt ws q=tLt from h0 2 (by omega)),if_pos (show txt ws q=tLe from h)];rfl
 | i+4,h,_,_=>by omega
theorem qWB {ws:List Wd} {q:Nat} (h0:∀ j,j<4->¬ txt ws q=sg j):qJx ws q=.inl q:=by
 rw [qJx,if_neg (show ¬ txt ws q=tEq from h0 0 (by omega)),if_neg (show ¬ txt ws q=tNe from h0 1 (by omega)),if_neg (show ¬ txt ws q=tLt from h0 2 (by omega)),if_neg (show ¬ txt ws q=tLe from h0 3 (by omega))]
def sgO:AObj:=⟨74,false, .bx (sgL.map fun w=>.p (.str w))⟩
theorem qTW (ws:List Wd) (q:Nat) (b:Bool) (hg:GoodW ws) (hq:q<=ws.length):HoldsG cx 209 [.ptr 0 0 0] (rrH ws q b) (RQ ws b q (qJx ws q) fun n=>.p (i64 n)):=by
 refine qAA Tryz.func209 rfl rfl rfl ?_
 have hl:=hg.len
 refine⟨Nat,fun i=>[(0, .ptr 0 0 0),(3, .ptr 1 0 0),(4, .p (i64 i))],fun _=>⟨2,[(1,sgO),(0,rrO ws q b)]⟩,fun i=>i<=4/\∀ j,j<i->¬ Tk ws b q (sg j),fun i=>4 - i,?_,?_⟩
 ·exact⟨0,⟨by omega,fun j h=>by omega⟩,qAC [] [] [] rfl (sk) (sk) rfl⟩
 rintro i ⟨i1,i2⟩
 refine QAD (fun h1=>?_) (fun h1=>?_)
 ·have h1:(i:Int)<4:=h1
  have hi:i<4:=by omega
  obtain⟨s1,s2⟩:=qXY i hi
  refine⟨by omega,?_⟩
  refine⟨.p (.str (sg i)),qO6 (by kernel_rfl) (by show(sgL.map fun w=>AV.p (.str w))[0+((i:Nat):Int).toNat * 1]?=some (AV.p (.str (sgL.getD i [])));rw [Int.toNat_natCast,Nat.mul_one,Nat.zero_add,List.getElem?_map,List.getD_eq_getElem?_getD,List.getElem?_eq_getElem (show i<sgL.length by exact hi)];rfl),?_⟩
  by_cases c:Tk ws b q (sg i)
  ·have q1l:q+1<=ws.length:=qAi (by rw [c.2];exact s2)
   refine(qAz ws q b (sg i) hg hq s1 s2).holds.useT [] [] rfl (sk) (sk) fun e0 H0 hq=>?_
   obtain⟨rfl,rfl⟩:=hq.1 c
   refine⟨rfl,_,⟨2,(0,rrO ws (q+1) false)::[(1,sgO)]⟩,rfl,rfl,?_⟩
   refine⟨((i+1:Nat):Int),by show _=IntKind.i64.wrap (1+(i:Int));rw [show(1:Int)+(i:Int)=((i+1:Nat):Int) by omega];exact w6z,?_⟩
   refine⟨[],[],[], .returned (.p (i64 ((i+1:Nat):Int))),rrH ws (q+1) false,rfl,sk,sk,_,q+1,false,q1l,?_,rfl,rfl⟩
   obtain⟨rfl,c2⟩:=c
   show qJx ws q=_
   rw [qUO hi (fun j hj e=>i2 j hj ⟨rfl,e⟩) c2];rfl
  ·refine(qAz ws q b (sg i) hg hq s1 s2).holds.useT [] [] rfl (sk) (sk) fun e0 H0 hq=>?_
   obtain⟨rfl,rfl⟩:=hq.2 c
   refine⟨rfl,_,⟨2,(0,rrO ws q b)::[(1,sgO)]⟩,rfl,rfl,?_⟩
   refine⟨_,w6z,?_⟩
   refine⟨i+1,⟨by omega,fun j hj=>?_⟩,qAC [] [] [] rfl (sk) (sk) rfl,by show 4 - (i+1)<4 - i;omega⟩
   rcases Nat.lt_or_eq_of_le (Nat.le_of_lt_succ hj) with h | h
   ·exact i2 j h
   ·rw [h];exact c
 ·have h1:¬ (i:Int)<4:=h1
  have:i=4:=by omega
  subst this
  refine⟨[],[],[], .returned (.p (i64 0)),rrH ws q true,rfl,sk,sk,0,q,true,hq,?_,rfl,rfl⟩
  cases b
  ·show qJx ws q=_
   rw [qWB (fun j hj e=>i2 j hj ⟨rfl,e⟩)];rfl
  ·exact Out.bad
def qR2:List Int->Int->Bool->List Int
 | [],n,d=>if d=true then [] else [n]
 | x::l,n,d=>(if n<=x/\d=false then [n] else [])++((if x=n then [] else [x])++qR2 l n (d || decide (n<=x)))
theorem qIA {n:Int}:∀ {l:List Int},(∀ y∈l,n<y)->qR2 l n true=l
 | [],_=>rfl
 | x::l,h=>by
  have hx:=h x (List.mem_cons_self ..)
  rw [qR2,if_neg (by simp),if_neg (by omega),Bool.true_or,qIA fun y hy=>h y (List.mem_cons_of_mem _ hy)];rfl
theorem qN7 {n:Int}:∀ {l:List Int},Inc l->qR2 l n false=qH9 l n
 | [],_=>rfl
 | x::l,h=>by
  have h1:∀ y∈l,x<y:=(List.pairwise_cons.1 h).1
  have h2:Inc l:=(List.pairwise_cons.1 h).2
  rw [qR2,qH9]
  by_cases c:n<x
  ·rw [if_pos ⟨by omega,rfl⟩,if_neg (by omega),if_pos c,decide_eq_true (by omega),Bool.or_true,qIA fun y hy=>by have:=h1 y hy;omega];rfl
  ·by_cases c2:x=n
   ·rw [if_pos ⟨by omega,rfl⟩,if_pos c2,if_neg c,if_pos c2,decide_eq_true (by omega),Bool.or_true,qIA fun y hy=>by have:=h1 y hy;omega,c2];rfl
   ·rw [if_neg (by omega),if_neg c2,if_neg c,if_neg c2,decide_eq_false (by omega),Bool.or_false,qN7 h2];rfl
theorem qRB {l:List Int} {n:Int} {k:Nat} {d:Bool} (hk:k<l.length):qR2 (l.drop k) n d=(if n<=l.getD k 0/\d=false then [n] else [])++((if l.getD k 0=n then [] else [l.getD k 0])++qR2 (l.drop (k+1)) n (d || decide (n<=l.getD k 0))):=by
 rw [List.drop_eq_getElem_cons hk,qR2,List.getD_eq_getElem?_getD,List.getElem?_eq_getElem hk];rfl
theorem qN6 (l:List Int) (n:Int) (hi:Inc l) (hl:l.length<=5000):Pure cx 210 [ints l,i64 n] (·=.ret [ints (qH9 l n)]):=by
 refine qAB Tryz.func210 rfl rfl rfl ?_
 refine⟨Nat × List Int × Bool,fun x=>[(0, .p (ints l)),(1, .p (i64 n)),(5, .sl 0 1 0 x.2.1.length),(6,vB x.2.2),(7, .p (i64 x.1))],fun x=>⟨1,[(0,iO x.2.1)]⟩,fun x=>x.1<=l.length/\x.2.1.length<=2 * x.1/\x.2.1++qR2 (l.drop x.1) n x.2.2=qH9 l n,fun x=>l.length - x.1,?_,?_⟩
 ·exact⟨(0,[],false),⟨by simp,by simp,qN7 hi⟩,qAC [] [] [(0,1)] rfl (sk) (sk) rfl⟩
 rintro⟨k,acc,d⟩ ⟨g1,g2,g3⟩
 simp only [] at g1 g2 g3
 refine QAD (fun h1=>?_) (fun h1=>?_)
 rotate_left
 ·have h1:¬ (k:Int)<((l.map i64).length:Nat):=h1
  rw [List.length_map] at h1
  rw [List.drop_eq_nil_of_le (by omega),qR2] at g3
  cases d
  ·rw [if_neg (by decide)] at g3
   refine⟨by show 0+1<=1;omega,[i64 n],rfl,?_⟩
   refine⟨by show 0+acc.length<=(acc.map i64).length;simp,acc.map i64,qAD (by simp),by show(acc.length+1) * 8<=140737488355328;omega,(acc++[n]).map i64,by simp,?_⟩
   exact endN (ints (acc++[n])) rfl ⟨_,rfl,by show 0+(acc.length+1)<=((acc++[n]).map i64).length;simp,qAD (by simp)⟩ (by rw [g3])
  ·rw [if_pos rfl,List.append_nil] at g3
   exact endN (ints acc) rfl ⟨_,rfl,by show 0+acc.length<=(acc.map i64).length;simp,qAD (by simp)⟩ (by rw [g3])
 have h1:(k:Int)<((l.map i64).length:Nat):=h1
 rw [List.length_map] at h1
 have hk:k<l.length:=by omega
 rw [qRB hk] at g3
 obtain⟨x,hx⟩:∃ x,x=l.getD k 0:=⟨_,rfl⟩
 rw [<- hx] at g3
 have hc:=qEW hk
 rw [<- hx] at hc
 refine⟨_,⟨by omega,i64 x,hc,rfl⟩,?_⟩
 by_cases c1:n<=x/\d=false
 ·obtain⟨c1,rfl⟩:=c1
  rw [if_pos ⟨c1,rfl⟩,decide_eq_true c1,Bool.or_true] at g3
  refine And.intro (fun _=>?_) (fun h=>absurd c1 h)
  refine⟨by show 0+1<=1;omega,[i64 n],rfl,?_⟩
  refine⟨by show 0+acc.length<=(acc.map i64).length;simp,acc.map i64,qAD (by simp),by show(acc.length+1) * 8<=140737488355328;omega,(acc++[n]).map i64,by simp,?_⟩
  refine⟨_,⟨by omega,i64 x,hc,rfl⟩,?_⟩
  refine And.intro (fun c2=>?_) (fun c2=>?_)
  ·have c2:x=n:=c2
   rw [if_pos c2] at g3
   refine⟨_,w6z,?_⟩
   exact⟨(k+1,acc++[n],true),⟨by simp only [];omega,by simp only [qAK];omega,by simp only [];rw [<- g3,List.append_assoc,List.nil_append]⟩,qAC [] [(0,2)] [] rfl ⟨rfl,rfl,congrArg (fun n=>AV.sl 2 1 0 n) (qAK acc _).symm,rfl,rfl,trivial⟩ (sk) rfl,by show l.length - (k+1)<l.length - k;omega⟩
  ·have c2:¬ x=n:=c2
   rw [if_neg c2] at g3
   refine⟨_,⟨by omega,i64 x,hc,rfl⟩,?_⟩
   refine⟨by show 0+1<=1;omega,[i64 x],rfl,?_⟩
   refine⟨by show 0+(acc.length+1)<=((acc++[n]).map i64).length;simp,(acc++[n]).map i64,qAD (by simp),by show(acc.length+1+1) * 8<=140737488355328;omega,(acc++[n]++[x]).map i64,by simp,?_⟩
   refine⟨_,w6z,?_⟩
   exact⟨(k+1,acc++[n]++[x],true),⟨by simp only [];omega,by simp only [qAK];omega,by simp only [];rw [<- g3,List.append_assoc,List.append_assoc]⟩,qAC [] [(0,4)] [] rfl ⟨rfl,rfl,congrArg (fun n=>AV.sl 4 1 0 n) (by show acc.length+1+1=(acc++[n]++[x]).length;simp),rfl,rfl,trivial⟩ (sk) rfl,by show l.length - (k+1)<l.length - k;omega⟩
 rw [if_neg c1] at g3
 have both:(d || decide (n<=x))=d:=by
  by_cases c:n<=x
  ·have:d=true:=by
    cases d
    ·exact absurd ⟨c,rfl⟩ c1
    ·rfl
   subst this;rfl
  ·rw [decide_eq_false c,Bool.or_false]
 rw [both,List.nil_append] at g3
 cases d
 ·refine And.intro (fun h=>absurd ⟨h,rfl⟩ c1) (fun _=>?_)
  refine⟨_,⟨by omega,i64 x,hc,rfl⟩,?_⟩
  refine And.intro (fun c2=>?_) (fun c2=>?_)
  ·have c2:x=n:=c2
   rw [if_pos c2] at g3
   refine⟨_,w6z,?_⟩
   exact⟨(k+1,acc,false),⟨by simp only [];omega,by simp only [];omega,by simp only [];rw [<- g3];rfl⟩,qAC [] [] [] rfl (sk) (sk) rfl,by show l.length - (k+1)<l.length - k;omega⟩
  ·have c2:¬ x=n:=c2
   rw [if_neg c2] at g3
   refine⟨_,⟨by omega,i64 x,hc,rfl⟩,?_⟩
   refine⟨by show 0+1<=1;omega,[i64 x],rfl,?_⟩
   refine⟨by show 0+acc.length<=(acc.map i64).length;simp,acc.map i64,qAD (by simp),by show(acc.length+1) * 8<=140737488355328;omega,(acc++[x]).map i64,by simp,?_⟩
   refine⟨_,w6z,?_⟩
   exact⟨(k+1,acc++[x],false),⟨by simp only [];omega,by simp only [qAK];omega,by simp only [];rw [<- g3,List.append_assoc]⟩,qAC [] [(0,2)] [] rfl ⟨rfl,rfl,congrArg (fun n=>AV.sl 2 1 0 n) (qAK acc _).symm,rfl,rfl,trivial⟩ (sk) rfl,by show l.length - (k+1)<l.length - k;omega⟩
 ·refine And.intro (fun _=>?_) (fun _=>?_)
  ·refine⟨_,⟨by omega,i64 x,hc,rfl⟩,?_⟩
   refine And.intro (fun c2=>?_) (fun c2=>?_)
   ·have c2:x=n:=c2
    rw [if_pos c2] at g3
    refine⟨_,w6z,?_⟩
    exact⟨(k+1,acc,true),⟨by simp only [];omega,by simp only [];omega,by simp only [];rw [<- g3];rfl⟩,qAC [] [] [] rfl (sk) (sk) rfl,by show l.length - (k+1)<l.length - k;omega⟩
   ·have c2:¬ x=n:=c2
    rw [if_neg c2] at g3
    refine⟨_,⟨by omega,i64 x,hc,rfl⟩,?_⟩
    refine⟨by show 0+1<=1;omega,[i64 x],rfl,?_⟩
    refine⟨by show 0+acc.length<=(acc.map i64).length;simp,acc.map i64,qAD (by simp),by show(acc.length+1) * 8<=140737488355328;omega,(acc++[x]).map i64,by simp,?_⟩
    refine⟨_,w6z,?_⟩
    exact⟨(k+1,acc++[x],true),⟨by simp only [];omega,by simp only [qAK];omega,by simp only [];rw [<- g3,List.append_assoc]⟩,qAC [] [(0,2)] [] rfl ⟨rfl,rfl,congrArg (fun n=>AV.sl 2 1 0 n) (qAK acc _).symm,rfl,rfl,trivial⟩ (sk) rfl,by show l.length - (k+1)<l.length - k;omega⟩
  ·refine⟨_,⟨by omega,i64 x,hc,rfl⟩,?_⟩
   refine And.intro (fun c2=>?_) (fun c2=>?_)
   ·have c2:x=n:=c2
    rw [if_pos c2] at g3
    refine⟨_,w6z,?_⟩
    exact⟨(k+1,acc,true),⟨by simp only [];omega,by simp only [];omega,by simp only [];rw [<- g3];rfl⟩,qAC [] [] [] rfl (sk) (sk) rfl,by show l.length - (k+1)<l.length - k;omega⟩
   ·have c2:¬ x=n:=c2
    rw [if_neg c2] at g3
    refine⟨_,⟨by omega,i64 x,hc,rfl⟩,?_⟩
    refine⟨by show 0+1<=1;omega,[i64 x],rfl,?_⟩
    refine⟨by show 0+acc.length<=(acc.map i64).length;simp,acc.map i64,qAD (by simp),by show(acc.length+1) * 8<=140737488355328;omega,(acc++[x]).map i64,by simp,?_⟩
    refine⟨_,w6z,?_⟩
    exact⟨(k+1,acc++[x],true),⟨by simp only [];omega,by simp only [qAK];omega,by simp only [];rw [<- g3,List.append_assoc]⟩,qAC [] [(0,2)] [] rfl ⟨rfl,rfl,congrArg (fun n=>AV.sl 2 1 0 n) (qAK acc _).symm,rfl,rfl,trivial⟩ (sk) rfl,by show l.length - (k+1)<l.length - k;omega⟩
theorem qEj {l:List (List UInt8)} {s:List UInt8} (h:inL l s=true):s∈l:=by
 induction l with
 | nil=>simp [inL] at h
 | cons x r ih=>
  simp only [inL,Bool.or_eq_true,decide_eq_true_eq] at h
  rcases h with rfl | h
  ·simp
  ·exact List.mem_cons_of_mem _ (ih h)
theorem qDC {k:Int} {t:List UInt8} (h:qAk k t=true):1<=t.length/\t.length<=10:=by
 have ne:∀ {t:List UInt8},t ≠ []->1<=t.length:=by intro t ht;cases t <;> simp at ht ⊢
 unfold qAk at h
 split at h
 ·simp [qAo] at h;exact⟨ne h.1.1.1.1,h.1.1.1.2⟩
 ·split at h
  ·exact(by decide:∀ t∈keysL,1<=t.length/\t.length<=10) t (qEj h)
  ·split at h
   ·simp [qIY] at h
    exact⟨ne h.1.1.1,by omega⟩
   ·split at h
    ·exact(by decide:∀ t∈marksL,1<=t.length/\t.length<=10) t (qEj h)
    ·cases h
structure JS where
 k:Nat
 a:Nat
 b:Nat
 lg:Nat
 n:Nat
 xs:List UInt8
 pre:List UInt8
structure JI where
 a:Nat
 b:Nat
 n:Nat
 xs:List UInt8
def qHG (s:List UInt8):List Wd × Int × Int × Int:=
 if 8000<s.length then([],0,0,3)
 else match qDd s with
  | .ok ws=>(ws,0,0,0)
  | .err p c=>([],p.1,p.2,c)
theorem qUT (s:List UInt8):qCl s=[.lsts 4 ((qHG s).1.map Wd.cells),i64 (qHG s).2.1,i64 (qHG s).2.2.1,i64 (qHG s).2.2.2]:=by
 unfold qCl qHG
 by_cases h8:8000<s.length
 ·rw [if_pos h8,if_pos h8];rfl
 ·rw [if_neg h8,if_neg h8]
  cases qDd s <;> rfl
theorem qSb (s:List UInt8):Pure cx 47 [.str s] (·=.ret [.lsts 4 ((qHG s).1.map Wd.cells),i64 (qHG s).2.1,i64 (qHG s).2.2.1,i64 (qHG s).2.2.2]):=by
 rw [<- qUT];exact qQK s
def tenL:List UInt8:=[48,49,50,51,52,53,54,55,56,57]
theorem qNH:∀ n<10,(tenL.drop n).take (n+1 - n)=[tenL.getD n 0]:=by decide
def digN:Nat->Nat->List UInt8
 | 0,_=>[]
 | f+1,n=>if n<10 then [tenL.getD n 0] else digN f (n / 10)++[tenL.getD (n % 10) 0]
theorem qKT:∀ f n,(digN f n).length<=f
 | 0,_=>by simp [digN]
 | f+1,n=>by
  simp only [digN]
  split
  ·simp
  ·have:=qKT f (n / 10)
   simp
   omega
theorem qS3:∀ (f n:Nat),f<=8->n<10 ^ (f+1)->Pure cx 26 [i64 n] (·=.ret [.str (digN (f+1) n)]):=by
 intro f
 induction f with
 | zero=>
  intro n _ h
  refine qAB Tryz.func26 rfl rfl rfl ?_
  refine And.intro (fun h1=>?_) (fun h1=>?_)
  ·have h1:(n:Int)<10:=h1
   refine⟨(n:Int)+1,w6z,?_⟩
   refine⟨by show(0:Int)<=n/\(n:Int)<=(n:Int)+1/\(n:Int)+1<=10;omega,?_⟩
   refine qAF _ rfl rfl ?_
   show PEnd.ret [.str ((tenL.drop n).take (n+1 - n))]=_
   rw [qNH n (by omega),digN.eq_def]
   simp only []
   rw [if_pos (by omega)]
  ·have h1:¬ (n:Int)<10:=h1
   omega
 | succ f ih=>
  intro n hf h
  have hn:n<10 ^ 10:=Nat.lt_of_lt_of_le h (Nat.pow_le_pow_right (by decide) (by omega))
  refine qAB Tryz.func26 rfl rfl rfl ?_
  refine And.intro (fun h1=>?_) (fun h1=>?_)
  ·have h1:(n:Int)<10:=h1
   refine⟨(n:Int)+1,w6z,?_⟩
   refine⟨by show(0:Int)<=n/\(n:Int)<=(n:Int)+1/\(n:Int)+1<=10;omega,?_⟩
   refine qAF _ rfl rfl ?_
   show PEnd.ret [.str ((tenL.drop n).take (n+1 - n))]=_
   rw [qNH n (by omega),digN.eq_def]
   simp only []
   rw [if_pos (by omega)]
  ·have h1:¬ (n:Int)<10:=h1
   refine VDraw.seq rfl ?_
   refine⟨by decide,((n / 10:Nat):Int),?_,?_⟩
   ·show((n / 10:Nat):Int)=IntKind.i64.wrap ((n / 10:Nat):Int)
    exact w6z
   refine⟨by decide,?_⟩
   refine⟨by decide,?_⟩
   refine⟨((n % 10:Nat):Int)+1,?_,?_⟩
   ·show _=IntKind.i64.wrap (((n % 10:Nat):Int)+1)
    exact w6z
   refine⟨by show(0:Int)<=(n % 10:Nat)/\((n % 10:Nat):Int)<=((n % 10:Nat):Int)+1/\((n % 10:Nat):Int)+1<=10;omega,?_⟩
   refine(ih (n / 10) (by omega) (by rw [Nat.pow_succ] at h;omega)).eq rfl ?_
   have hd:=qKT (f+1) (n / 10)
   refine⟨by show(digN (f+1) (n / 10)).length+((tenL.drop (n % 10)).take (n % 10+1 - n % 10)).length<=_;rw [qNH _ (by omega)];simp;omega,?_⟩
   refine qAF _ rfl rfl ?_
   show PEnd.ret [.str (digN (f+1) (n / 10)++(tenL.drop (n % 10)).take (n % 10+1 - n % 10))]=_
   rw [qNH _ (by omega),digN.eq_def (f+1+1)]
   simp only []
   rw [if_neg (by omega)]
structure Dr where
 kind:UInt8
 which:UInt8
 letters:List UInt8
 n:UInt16
 down:UInt8
 over:UInt8
abbrev Dr.cells (d:Dr):List PV:=[u8 d.kind,u8 d.which, .lst (d.letters.map u8), .int .u16 (d.n.toNat:Int),u8 d.down,u8 d.over]
def qYb (d:Dr):Prop:=0<d.down.toNat % 3/\d.down.toNat<100
instance (d:Dr):Decidable (qYb d):=inferInstanceAs (Decidable (_/\_))
structure WS where
 k:Nat
 a:Nat
 b:Nat
 out:List Wd
def qUz (c:UInt8):Prop:=c.toNat=32∨c.toNat=10
def qFs (r:List UInt8):Bool:=match r with
 | []=>true
 | c::_=>!(decide (c.toNat=32) || decide (c.toNat=10)) && !List.isPrefixOf [45,45] r && !List.isPrefixOf [40,42] r
theorem qKr {r:List UInt8} (h:qFs r=true):∀ f,qBK f r=.inl 0
 | 0=>rfl
 | f+1=>by
  cases r with
  | nil=>rfl
  | cons c r=>
   simp only [qFs,Bool.and_eq_true,Bool.not_eq_true',Bool.or_eq_false_iff,decide_eq_false_iff_not] at h
   obtain⟨⟨h1,h2⟩,h3⟩:=h
   rw [qBK]
   rw [if_neg (by omega),if_neg (by rw [h2];simp),if_neg (by rw [h3];simp)]
def qTD (g r:List UInt8):Prop:=∀ f,(g++r).length<=f->qBK f (g++r)=.inl g.length
theorem qHj {r:List UInt8} (hr:qFs r=true):∀ {g:List UInt8},(∀ c∈g,qUz c)->qTD g r
 | [],_,f,_=>qKr hr f
 | c::g,hg,f,hf=>by
  cases f with
  | zero=>simp at hf
  | succ f=>
   have hc:qUz c:=hg c (by simp)
   have ih:=qHj hr (g:=g) (fun x hx=>hg x (List.mem_cons_of_mem _ hx)) f (by simpa using hf)
   rw [List.cons_append,qBK]
   simp only [List.drop_succ_cons,List.drop_zero]
   rw [if_pos (show c.toNat=32∨c.toNat=10 from hc),ih]
   simp [shift]
theorem qEZ (f:UInt8->Bool):∀ (t u:List UInt8),qAL f (t++u)=if qAL f t=t.length then t.length+qAL f u else qAL f t
 | [],u=>by simp [qAL]
 | c::t,u=>by
  have ih:=qEZ f t u
  have hl:=qCf f t
  by_cases h:f c=true
  ·have h1:qAL f (c::t++u)=qAL f (t++u)+1:=by simp [qAL,h]
   have h2:qAL f (c::t)=qAL f t+1:=by simp [qAL,h]
   rw [h1,h2,ih,List.length_cons]
   by_cases e:qAL f t=t.length
   ·rw [if_pos e,if_pos (by omega)];omega
   ·rw [if_neg e,if_neg (by omega)]
  ·have h1:qAL f (c::t++u)=0:=by simp [qAL,h]
   have h2:qAL f (c::t)=0:=by simp [qAL,h]
   rw [h1,h2,List.length_cons,if_neg (by omega)]
theorem qCP {f:UInt8->Bool} {t:List UInt8}:qAL f t=t.length ↔ ∀ c∈t,f c=true:=by
 induction t with
 | nil=>simp [qAL]
 | cons c t ih=>
  have hl:=qCf f t
  simp only [qAL,List.length_cons]
  by_cases h:f c=true
  ·rw [if_pos h]
   constructor
   ·intro e x hx
    rcases List.mem_cons.1 hx with rfl | hx
    ·exact h
    ·exact ih.1 (by omega) x hx
   ·intro e;rw [ih.2 fun x hx=>e x (by simp [hx])]
  ·rw [if_neg h]
   constructor
   ·intro e;omega
   ·intro e;exact absurd (e c (by simp)) h
theorem qOb (f:UInt8->Bool) (r:List UInt8):∀ c∈r.take (qAL f r),f c=true:=by
 induction r with
 | nil=>simp [qAL]
 | cons c r ih=>
  simp only [qAL]
  split
  ·rename_i h
   intro x hx
   simp only [List.take_succ_cons,List.mem_cons] at hx
   rcases hx with rfl | hx
   ·exact h
   ·exact ih x hx
  ·simp
def qMX (c:UInt8):Prop:=qUz c∨c.toNat=40
inductive Fol:List UInt8->List UInt8->Prop
 | nil (a:List UInt8):Fol a []
 | bl (a:List UInt8) (c:UInt8) (b:List UInt8) (h:qMX c):Fol a (c::b)
 | same (c:UInt8) (a b:List UInt8):Fol (c::a) (c::b)
theorem qW7 {c:UInt8} (h:qMX c):qAS c=false:=by
 unfold qMX qUz at h
 simp [qAS,qBf,isLet]
 omega
theorem qTA {c d:UInt8} (h:qMX d):inL marksL [c,d]=false:=by
 cases e:inL marksL [c,d] with
 | false=>rfl
 | true=>
  have:=qEj e
  have hd:d=32∨d=10∨d=40:=by
   rcases h with (h | h) | h
   ·left;exact UInt8.toNat_inj.1 h
   ·right;left;exact UInt8.toNat_inj.1 h
   ·right;right;exact UInt8.toNat_inj.1 h
  simp [marksL] at this
  rcases hd with rfl | rfl | rfl <;> simp at this
theorem qUh {tx a b:List UInt8} {kd:Int} (hr:qAk kd tx=true) (h:qBN (tx++a)=(kd,tx)) (hf:Fol a b):qBN (tx++b)=(kd,tx):=by
 have hlen:=qDC hr
 have hne:tx ≠ []:=by intro e;subst e;simp at hlen
 unfold qBN at h
 split at h
 ·rename_i hpos
  have htk:(tx++a).take (qAL qAS (tx++a))=tx:=by
   split at h
   ·exact(Prod.mk.inj h).2
   ·split at h <;> exact(Prod.mk.inj h).2
  have hall:qAL qAS tx=tx.length:=qCP.2 (by rw [<- htk];exact qOb _ _)
  have hsp:qAL qAS (tx++a)=tx.length:=by
   have:=congrArg List.length htk
   have hle:=qCf qAS (tx++a)
   rw [List.length_take] at this
   omega
  have hsa:qAL qAS a=0:=by rw [qEZ,if_pos hall] at hsp;omega
  have hsb:qAL qAS b=0:=by
   cases hf with
   | nil=>rfl
   | bl _ c b' hc=>simp [qAL,qW7 hc]
   | same c a' b'=>
    simp only [qAL] at hsa ⊢
    split at hsa
    ·omega
    ·rename_i hc;rw [if_neg hc]
  have hspb:qAL qAS (tx++b)=tx.length:=by rw [qEZ,if_pos hall,hsb];rfl
  unfold qBN
  rw [hspb,if_pos (by omega),List.take_left]
  rw [htk] at h
  exact h
 ·rename_i hz
  have hsz:qAL qAS (tx++a)=0:=by omega
  obtain⟨c,tx',rfl⟩:∃ c t,tx=c::t:=by cases tx with
   | nil=>exact absurd rfl hne
   | cons c t=>exact⟨c,t,rfl⟩
  have hc:qAS c=false:=by
   simp only [List.cons_append,qAL] at hsz
   split at hsz
   ·omega
   ·rename_i h;simpa using h
  have hszb:¬ 0<qAL qAS (c::tx'++b):=by simp [qAL,hc]
  unfold qBN
  rw [if_neg hszb]
  split at h
  ·rename_i h2
   have e:=(Prod.mk.inj h).2
   have hk:=(Prod.mk.inj h).1
   simp only [Bool.and_eq_true,decide_eq_true_eq] at h2
   have hl2:tx'.length=1:=by
    have:=congrArg List.length e
    rw [List.length_take] at this
    simp at this h2
    omega
   obtain⟨d,rfl⟩:∃ d,tx'=[d]:=by
    match tx',hl2 with
    | [d],_=>exact⟨d,rfl⟩
   have ht:([c,d]++b).take 2=[c,d]:=rfl
   have ha:([c,d]++a).take 2=[c,d]:=rfl
   rw [ha] at h2
   rw [ht,if_pos (by simp [h2.2]),hk]
  ·rename_i h2
   have e:=(Prod.mk.inj h).2
   have hk:=(Prod.mk.inj h).1
   have hl1:tx'=[]:=by
    have:=congrArg List.length e
    rw [List.length_take] at this
    simp only [List.length_append,List.length_cons] at this
    exact List.eq_nil_of_length_eq_zero (by omega)
   subst hl1
   rw [if_neg,hk]
   ·rfl
   ·intro h3
    simp only [Bool.and_eq_true,decide_eq_true_eq] at h3
    cases hf with
    | nil=>simp at h3
    | bl _ x b' hx=>
     have:([c]++x::b').take 2=[c,x]:=rfl
     rw [this,qTA hx] at h3
     simp at h3
    | same x a' b'=>
     apply h2
     simp only [Bool.and_eq_true,decide_eq_true_eq]
     exact⟨by simp,h3.2⟩
theorem qSD {tx a b:List UInt8} (hne:tx ≠ []) (h:qFs (tx++a)=true) (hf:Fol a b):qFs (tx++b)=true:=by
 cases tx with
 | nil=>exact absurd rfl hne
 | cons c t=>
  simp only [List.cons_append,qFs,Bool.and_eq_true,Bool.not_eq_true',Bool.or_eq_false_iff,decide_eq_false_iff_not] at h ⊢
  obtain⟨⟨h1,h2⟩,h3⟩:=h
  refine⟨⟨h1,?_⟩,?_⟩
  ·cases t with
   | cons d t=>simpa [List.isPrefixOf] using h2
   | nil=>
    cases hf with
    | nil=>simp [List.isPrefixOf]
    | bl _ x b' hx=>
     unfold qMX qUz at hx
     simp [List.isPrefixOf]
     rintro _ rfl
     simp at hx
    | same x a' b'=>simpa [List.isPrefixOf] using h2
  ·cases t with
   | cons d t=>simpa [List.isPrefixOf] using h3
   | nil=>
    cases hf with
    | nil=>simp [List.isPrefixOf]
    | bl _ x b' hx=>
     unfold qMX qUz at hx
     simp [List.isPrefixOf]
     rintro _ rfl
     simp at hx
    | same x a' b'=>simpa [List.isPrefixOf] using h3
theorem qMW:∀ t∈keysL,qAL qAS t=t.length/\qBf (t.headD 0)=false/\t ≠ []:=by decide
theorem qSm:∀ t∈marksL,qBN t=(4,t)/\qFs t=true:=by decide
theorem qKx {kd:Int} {tx:List UInt8} (h:qAk kd tx=true):qBN tx=(kd,tx)/\qFs tx=true:=by
 have hlen:=qDC h
 have alnStop:∀ {t:List UInt8},qAL qAS t=t.length->t ≠ []->qFs t=true:=by
  intro t ha hne
  cases t with
  | nil=>rfl
  | cons c t=>
   have hc:=qCP.1 ha c (by simp)
   simp only [qFs,Bool.and_eq_true,Bool.not_eq_true',Bool.or_eq_false_iff,decide_eq_false_iff_not]
   have:c.toNat ≠ 32/\c.toNat ≠ 10/\c.toNat ≠ 45/\c.toNat ≠ 40:=by
    simp [qAS,qBf,isLet] at hc
    omega
   refine⟨⟨⟨this.1,this.2.1⟩,?_⟩,?_⟩
   ·simp [List.isPrefixOf]
    rintro rfl
    exact absurd rfl this.2.2.1
   ·simp [List.isPrefixOf]
    rintro rfl
    exact absurd rfl this.2.2.2
 have one:∀ {t:List UInt8},qAL qAS t=t.length->t ≠ []->qBN t=(if inL keysL t then(2,t) else if qBf (t.headD 0) then(3,t) else(1,t)):=by
  intro t ha hne
  unfold qBN
  have:0<t.length:=by cases t <;> simp at hne ⊢
  rw [ha,if_pos this,List.take_length]
 unfold qAk at h
 split at h
 ·rename_i hk
  subst hk
  simp [qAo] at h
  obtain⟨⟨⟨⟨h1,h2⟩,h3⟩,h4⟩,h5⟩:=h
  refine⟨?_,alnStop h4 h1⟩
  rw [one h4 h1,h5]
  have:qBf (tx.headD 0)=false:=by
   cases tx with
   | nil=>exact absurd rfl h1
   | cons c t=>
    have h3:isLet c=true:=h3
    show qBf c=false
    simp [isLet,qBf] at h3 ⊢
    omega
  rw [this]
  rfl
 ·split at h
  ·rename_i hk
   subst hk
   obtain⟨h1,h2,h3⟩:=qMW tx (qEj h)
   refine⟨?_,alnStop h1 h3⟩
   rw [one h1 h3,h]
   rfl
  ·split at h
   ·rename_i hk
    subst hk
    simp [qIY] at h
    obtain⟨⟨⟨h1,h2⟩,h3⟩,h4⟩:=h
    have ha:qAL qAS tx=tx.length:=qCP.2 fun c hc=>by simp [qAS,qCP.1 h3 c hc]
    have hd:qBf (tx.headD 0)=true:=by
     cases tx with
     | nil=>exact absurd rfl h1
     | cons c t=>exact qCP.1 h3 c (by simp)
    have hk:inL keysL tx=false:=by
     cases e:inL keysL tx with
     | false=>rfl
     | true=>rw [(qMW tx (qEj e)).2.1] at hd;cases hd
    refine⟨?_,alnStop ha h1⟩
    rw [one ha h1,hk,hd]
    rfl
   ·split at h
    ·rename_i hk
     subst hk
     exact qSm tx (qEj h)
    ·cases h
theorem qRn {p:Nat × Nat} {t:List UInt8} (h:∀ c∈t,c.toNat ≠ 10):qIT p t=(p.1,p.2+t.length):=by
 induction t generalizing p with
 | nil=>rfl
 | cons c t ih=>
  rw [qLe,ih fun x hx=>h x (by simp [hx])]
  simp [adv,h c (by simp)]
  omega
theorem qOd {kd:Int} {tx:List UInt8} (h:qAk kd tx=true):∀ c∈tx,c.toNat ≠ 10:=by
 have aln:∀ {t:List UInt8},qAL qAS t=t.length->∀ c∈t,c.toNat ≠ 10:=by
  intro t ha c hc
  have:=qCP.1 ha c hc
  simp [qAS,qBf,isLet] at this
  omega
 unfold qAk at h
 split at h
 ·simp [qAo] at h
  exact aln h.1.2
 ·split at h
  ·exact aln (qMW tx (qEj h)).1
  ·split at h
   ·simp [qIY] at h
    exact aln (qCP.2 fun c hc=>by simp [qAS,qCP.1 h.1.2 c hc])
   ·split at h
    ·exact(by decide:∀ t∈marksL,∀ c∈t,c.toNat ≠ 10) tx (qEj h)
    ·cases h
inductive Lay:Nat × Nat->List UInt8->List Wd->List UInt8->Prop
 | nil (p:Nat × Nat) (suf:List UInt8):Lay p [] [] suf
 | cons {p:Nat × Nat} {g T:List UInt8} {w:Wd} {ws:List Wd} {suf:List UInt8} {l c:Nat} (hsk:qTD g (w.text++(T++suf))) (h1:qBN (w.text++(T++suf))=(w.kind,w.text)) (hr:qAk w.kind w.text=true)
   (hp:qIT p g=(l,c)) (hl:w.line=l) (hc:w.col=c) (h:Lay (l,c+w.text.length) T ws suf):Lay p (g++(w.text++T)) (w::ws) suf
theorem qW8 (pre s:List UInt8):at_ (pre++s) pre.length=qIT (1,1) pre:=by simp [at_]
theorem qNc {p:Nat × Nat} {T:List UInt8} {ws:List Wd} {suf:List UInt8} (h:Lay p T ws suf):∀ (pre:List UInt8) (acc:List Wd) (f:Nat),qIT (1,1) pre=p->acc.length+ws.length<=1500 ->
  qDe (f+ws.length) (pre++(T++suf)) pre.length acc=qDe f (pre++(T++suf)) (pre++T).length (acc++ws):=by
 induction h with
 | nil p suf=>intro pre acc f _ _;simp
 | @cons p g T w ws suf l c hsk h1 hr hp hl hc h ih=>
  intro pre acc f hpre hlen
  simp only [List.length_cons] at hlen ⊢
  obtain⟨s,hs⟩:∃ s,s=pre++(g++(w.text++T)++suf):=⟨_,rfl⟩
  have hd:s.drop pre.length=g++(w.text++(T++suf)):=by rw [hs];simp
  have hd2:s.drop (pre.length+g.length)=w.text++(T++suf):=by rw [<- List.drop_drop,hd];simp
  have hwl:=qDC hr
  have hsl:s.length=pre.length+(g++(w.text++(T++suf))).length:=by rw [hs];simp
  have hat:at_ s (pre.length+g.length)=(l,c):=by
   have:s=(pre++g)++(w.text++(T++suf)):=by rw [hs];simp
   rw [this,<- List.length_append,qW8,qEI,hpre,hp]
  have hsk':qBK s.length (s.drop pre.length)=.inl g.length:=by rw [hd];exact hsk _ (by omega)
  rw [<- hs,show f+(ws.length+1)=(f+ws.length)+1 by omega,qDe,hsk']
  simp only []
  rw [qFT,if_neg (by rw [hsl];simp;omega),hd2,h1]
  simp only [hr]
  rw [if_neg (by omega),hat]
  have hw:(⟨w.kind,w.text,((l,c):Nat × Nat).1,((l,c):Nat × Nat).2⟩:Wd)=w:=by
   obtain⟨a,b,c',d⟩:=w
   simp only [] at hl hc
   subst hl hc
   rfl
  have hw':(⟨w.kind,w.text,(l:Int),(c:Int)⟩:Wd)=w:=hw
  simp only []
  rw [hw']
  have:=ih (pre++g++w.text) (acc++[w]) f (by rw [qEI,qEI,hpre,hp,qRn (qOd hr)]) (by simp;omega)
  have e1:pre++g++w.text++(T++suf)=s:=by rw [hs];simp
  have e2:(pre++g++w.text).length=pre.length+g.length+w.text.length:=by simp;omega
  have e3:(pre++g++w.text++T).length=(pre++(g++(w.text++T))).length:=by simp
  rw [e1,e2,e3] at this
  rw [this]
  simp
theorem Lay.len {p:Nat × Nat} {T:List UInt8} {ws:List Wd} {suf:List UInt8} (h:Lay p T ws suf):ws.length<=T.length:=by
 induction h with
 | nil=>simp
 | cons hsk h1 hr hp hl hc h ih=>
  have:=qDC hr
  simp only [List.length_cons,List.length_append]
  omega
abbrev qBT:=List (List UInt8)
def qAa (n:Int):List UInt8:=digN 4 n.toNat
def qGj (n:Int):qBT:=if n<0 then [qAu,qAa (-n)] else [qAa n]
def qE5 (r:Rf):qBT:=if r.mode=3 then [tLB,qHN,tRB] else if r.mode=2 then [tLB,qAa r.n,tRB] else if r.mode=1 then(if 0<r.n then [tLB,r.plate,qEU,qAa r.n,tRB] else [tLB,r.plate,tRB]) else []
def qBY (r:Rf):qBT:=r.name::qE5 r
def qFF {α:Type} (f:α->qBT):List α->qBT
 | []=>[]
 | a::r=>f a++r.flatMap fun b=>qAv::f b
def qGZ (k:Int):List UInt8:=if k=1 then tEq else if k=2 then tNe else if k=3 then tLt else tLe
def lvl (op:Int):Nat:=if op=9 then 1 else if op=8 then 2 else if op=7 then 3 else 4
def inT (k:Nat) (p:Int × qBT):qBT:=if lvl p.1<k then tLP::(p.2++[tRP]) else p.2
def qCF (op n rel val:Int) (r:Rf) (st:List Int):qBT:=
 if op=6 then [qB0,tLP]++(qBY r++[tEq,qAa val,tRP,qGZ rel,qAa n])
 else if op=5 then qBY r++([tIn,tLC]++(qFF (fun n=>[qAa n]) st++[tRC]))
 else qBY r++[qGZ op,qAa n]
def qUw (op n rel val:Int) (r:Rf) (st:List Int) (ps:List (Int × qBT)):qBT:=
 if op=9 then inT 1 (ps.getD 0 (0,[]))++tOr::inT 2 (ps.getD 1 (0,[]))
 else if op=8 then inT 2 (ps.getD 0 (0,[]))++qDj::inT 3 (ps.getD 1 (0,[]))
 else if op=7 then qHF::inT 3 (ps.getD 0 (0,[]))
 else qCF op n rel val r st
def Cd.op:Cd->Int
 | .mk op _ _ _ _ _ _=>op
mutual
def qAj:Cd->qBT
 | .mk op n rel val r st ar=>qUw op n rel val r st (qFJ ar)
def qFJ:List Cd->List (Int × qBT)
 | []=>[]
 | c::r=>(c.op,qAj c)::qFJ r
end
def qAW (k:Nat) (c:Cd):qBT:=inT k (c.op,qAj c)
def qB8 (l:List Int):qBT:=l.flatMap qGj
def qBd:List Cs->qBT
 | []=>[]
 | [c]=>qCK::qAq::qB8 c.nums
 | c::d::r=>qAj c.cond++(qAq::(qB8 c.nums++(qAY::qBd (d::r))))
def qA4 (l:List Cs):qBT:=tLC::(qBd l++[tRC])
def qAe (key:List UInt8) (l:List Rf):qBT:=if l=[] then [] else key::qFF qBY l
def qMb (d:De):qBT:=
 if d.kind=1 then [qCN,qAa d.n] else if d.kind=2 then [qCM,d.name,tEq,qAa d.n]
 else if d.kind=3 then [qAl,d.name]++((if d.plate=[] then [] else [tLB,d.plate,tRB])++([qAq,qAa d.n]++(qAe qAg d.refs++(tEq::qA4 d.cases))))
 else if d.kind=4 then [qBM,d.name,qAq,qAa d.n]++qAe qBt d.refs
 else if d.kind=5 then qBu::(qAe qAg d.refs++(tEq::qA4 d.cases)) else []
def declT (d:De):qBT:=qMb d++[qAY]
def spW:Bool->qBT->List UInt8
 | _,[]=>[]
 | b,w::r=>(if b then [32] else [])++(w++spW true r)
theorem qLv:∀ (b:Bool) (x y:qBT),spW b (x++y)=spW b x++spW (b || decide (x ≠ [])) y
 | b,[],y=>by simp [spW]
 | b,w::r,y=>by
  show(if b then [32] else [])++(w++spW true (r++y))=((if b then [32] else [])++(w++spW true r))++_
  rw [qLv true r y]
  simp [List.append_assoc]
theorem qDa (x y:qBT):spW true (x++y)=spW true x++spW true y:=by rw [qLv];simp
theorem qPs {x y:qBT} (h:x ≠ []):spW false (x++y)=spW false x++spW true y:=by rw [qLv,decide_eq_true h];simp
theorem qG2:∀ {x:qBT},x ≠ []->spW true x=32::spW false x
 | [],h=>absurd rfl h
 | _::_,_=>rfl
def qHI (d:De):List UInt8:=spW false (declT d)++[10]
def qBl (ds:List De):List UInt8:=ds.flatMap qHI
def qHJ (ds:List De):Nat:=(ds.map fun d=>(declT d).length).sum
def txtV (ds:List De):List PV:=if qBP ds=true then(if (qBl ds).length<=8000/\qHJ ds<=1500 then [.str (qBl ds),i64 0] else [.str [],i64 3]) else [.str [],i64 380]
end Go.Proofs.YtohfoaplnjcihaaGreatDoor
namespace Go.Proofs.YtohfoaplnjcihaaGreatDoor.Y
open Go
section
variable {C:Cx}
theorem qLG {f : FuncId} {fn : Func} {c : Code} {args : List AV} {u : Md} {H : Hp} {Q : AE -> Md -> Hp -> Prop} (hf : C.P.funcs[f]? = some fn) (hname : (fn.name == "runtime.NumGoroutine") = false) (hb : fn.body = some c)
  (hN:(Nat.ble args.length fn.ntmps && qPD u)=true)
  (hv:vc C none H.next fn.ntmps c (sets (fun _=>und) (qOM 0 args)) [] H (qVd C fn.results.toList H.next u Q)):HoldsD C f args u H Q:=by
 intro Γ w args' m hR hA hM
 simp only [Bool.and_eq_true] at hN
 obtain⟨n1,hdata⟩:=hN
 refine⟨qEa hf hname hb _ _,trivial,fun c₀ cs hu _=>?_⟩
 let b:Frame:={ (default:Frame) with fn:=f,kind:=.deferred,roundOf:=none }
 have hbf:(C.P.funcs[b.fn]?).isSome=true:=by show(C.P.funcs[f]?).isSome=true;rw [hf];rfl
 have henter:Frame.enter C.P f ⟨args'⟩ .deferred=b.atR { tmps:=(⟨args'⟩:Array Value)++Array.replicate (fn.ntmps - args'.length) undef,defers:=[] } [.code c]:=by
  simp [Frame.enter,Frame.atR,hf,hb,b]
 have hc:({ c₀ with mode:=m }:Frame)=c₀:=by subst hu;rfl
 have hS:=qKP (n:=fn.ntmps) hA (Nat.le_of_ble_eq_true n1)
 obtain⟨e2,a2,w2,⟨e,σ2,ds2,H2,Γ2,hQ2,hX2,hS2,hL2⟩,harr2⟩:=qCB (rn:=none) (n0:=H.next) hbf c _ [] H _ Γ _ w (Nat.le_refl _) rfl hR hS hv [] (c₀::cs)
 have hle:=hL2.le hR
 have hmr2:=qRy hle hM
 unfold qVd at hQ2
 split at hQ2 <;> try exact hQ2.elim
 have hdf:=hS2.df
 simp only [DRL] at hdf
 rw [<- henter] at harr2
 have ret:∀ (fr:Frame),fr={ b.atR a2 [] with mode:=.returning }∨(∃ todo,fr={ b.atR a2 todo with mode:=.returning })->qR1 C σ2 H2 fn.results.toList (fun vs=>qT4 H.next (fun e H'=>Q e u H') (.returned (qTJ vs)) H2) ->
   StepsIn (Machine.fenced C.P (Fz none)) C.P (lone (Frame.enter C.P f ⟨args'⟩ .deferred) (c₀::cs) w) (lone fr (c₀::cs) w2) ->
   ∃ e u' w' fr,qTE C Γ H w Q e u' w'/\ComesIn (Machine.fenced C.P (Fz none)) C.P (lone (Frame.enter C.P f ⟨args'⟩ .deferred) (c₀::cs) w) (lone fr ({ c₀ with mode:=u' }::cs) w') e/\fr.kind=.deferred/\fr.fn=f/\fr.going C.P w' e:=by
  intro fr hfr hr hs
  obtain⟨vs,vs',k1,k2,k3⟩:=qDl hL2.1 hS2 hr
  refine⟨.returned (tup vs'),m,w2,fr,qHb hdata k1 ⟨_,rfl,qRo k2⟩ hmr2 hL2,by rw [hc];exact hs,?_,?_,?_⟩
  ·rcases hfr with rfl | ⟨todo,rfl⟩ <;> rfl
  ·rcases hfr with rfl | ⟨todo,rfl⟩ <;> rfl
  ·rcases hfr with rfl | ⟨todo,rfl⟩ <;> exact⟨rfl,hdf,fn,hf,qFO k3⟩
 cases e with
 | normal=>
  simp only [XR] at hX2;subst hX2
  exact ret _ (.inl rfl) hQ2 (StepsIn.trans harr2 (.one (qAV _) (stepR_end rfl)))
 | ret=>
  simp only [XR] at hX2;subst hX2
  obtain⟨todo,hs⟩:=harr2.1 rfl
  exact ret _ (.inr ⟨todo,rfl⟩) hQ2 hs
 | panic ch=>
  simp only [XR] at hX2
  obtain⟨ch',rfl,hp⟩:=hX2
  obtain⟨todo,hs⟩:=harr2
  exact⟨.panicked ch',m,w2,_,qHb hdata hQ2 ⟨ch',rfl,hp⟩ hmr2 hL2,by rw [hc];exact hs,rfl,rfl,rfl,hdf,fn,hf⟩
 | exit i=>exact hQ2.elim
 | goto i=>exact hQ2.elim
end
end Go.Proofs.YtohfoaplnjcihaaGreatDoor.Y
namespace Go.Proofs.YtohfoaplnjcihaaGreatDoor.Y
open Go
section
variable {C:Cx}
theorem HoldsD.useT {g:FuncId} {args0 args:List AV} {n0:Nat} {L0:List (Nat × AObj)} {H:Hp} {Q0:AE->Hp->Prop} {Q1:AE->Md->Hp->Prop} (h:HoldsD C g args0 .ret ⟨n0,L0⟩ fun e u H'=>u=.ret/\Q0 e H') (fs:List Nat) (ps:List (Nat × Nat))
  (hb:(qA6 H.l fs && (List.range n0).all (fun n=>Nat.blt (look ps n) H.next) && qIb (qBe 0 ps n0 H.next) [] L0)=true)
  (hH:qRv (qBe 0 ps n0 H.next) [] (marks H.l fs) 0 L0) (hA0:qFf (qBe 0 ps n0 H.next) [] (marks H.l fs) args args0)
  (hQ1:∀ e0 H0',Q0 e0 H0'->qFH H0'.l=true/\∃ e H2,qSV (qBe 0 ps n0 H.next) e0=e/\mrg (qBe 0 ps n0 H.next) n0 L0 (H.mrk fs) H0'=H2/\Q1 e .ret H2):HoldsD C g args .ret H Q1:=by
 have hQ:∀ e0 H0',Q0 e0 H0'->qFH H0'.l=true/\(fun e H2=>Q1 e .ret H2) (qSV (qBe 0 ps n0 H.next) e0) (mrg (qBe 0 ps n0 H.next) n0 L0 (H.mrk fs) H0'):=fun e0 H0' hq=>by
  obtain⟨h1,e,H2,rfl,rfl,h2⟩:=hQ1 e0 H0' hq
  exact⟨h1,h2⟩
 obtain⟨Q,hQd⟩:∃ Q:AE->Hp->Prop,Q=fun e H2=>Q1 e .ret H2:=⟨_,rfl⟩
 rw [<- hQd] at hQ
 intro Γ0 w args' m hR0 hA hM
 simp only [Bool.and_eq_true] at hb
 obtain⟨⟨b1,b2⟩,b3⟩:=hb
 obtain⟨Γ,e1,hLm⟩:=hR0.mark b1
 have hR:=hLm.1
 have hA:=qBD (hLm.le hR0) _ _ hA
 have hlt:∀ n,n<n0->qBe 0 ps n0 H.next n<H.next:=by
  intro n hn
  unfold qBe
  rw [show Nat.blt n 0=false from rfl]
  rw [show Nat.blt n n0=true by simpa using hn]
  have:=List.all_eq_true.1 b2 n (List.mem_range.2 hn)
  simpa using this
 have hge:∀ n,n0<=n->qBe 0 ps n0 H.next n=n - n0+H.next:=fun n hn=>qEu (Nat.zero_le _) hn
 have hsee:=R.see (H1:=⟨n0,L0⟩) (ρ:=qBe 0 ps n0 H.next) (ni:=[]) (n0:=0) hR hH (qC7 b3) rfl (fun n h=>by omega) (Nat.zero_le _) (fun n h=>by rw [hge n h];show H.next<=_;omega)
 have hA1:=qBJ hR _ _ _ hA0 hA
 have key:∀ e w',Post C (Γ.see (qBe 0 ps n0 H.next) []) ⟨n0,L0⟩ w Q0 e w'->Post C Γ (H.mrk fs) w Q e w':=by
  rintro e' w' ⟨e0,H0',Γc,h1,h2,hL⟩
  obtain⟨hnd,hq⟩:=hQ e0 H0' h1
  obtain⟨h3,h4,h5,h6⟩:=hL
  simp only at h4 h5
  let Γ':Gm:=⟨fun m=>if m<H.next then Γ.nm m else Γc.nm (m - H.next+n0),Γc.fz⟩
  have hnm:∀ n,Γ'.nm (qBe 0 ps n0 H.next n)=Γc.nm n:=by
   intro n
   by_cases hn:n<n0
   ·simp only [Γ',if_pos (hlt n hn)]
    rw [h4 n hn]
    rfl
   ·have hn':=hge n (by omega)
    simp only [Γ']
    rw [hn',if_neg (by omega)]
    congr 1
    omega
  have hle:Γ.le Γ':=by
   refine⟨fun n q hq=>?_,h6.fz⟩
   have hn:n<H.next:=by
    rcases Nat.lt_or_ge n H.next with h1 | h1
    ·exact h1
    ·rw [hR.fresh n h1] at hq;cases hq
   simp only [Γ',if_pos hn]
   exact hq
  have hOwn0:∀ k,Own (Γ.see (qBe 0 ps n0 H.next) []) ⟨n0,L0⟩ k->Own Γ (H.mrk fs) k:=fun k hk=>by
   rcases hsee.2.2.2.prov k hk with h1 | h1
   ·exact absurd (Own.blk_lt hsee.1 hk) (by omega)
   ·exact h1
  -- an owned block of the callee's is not one of the frame
  have hframe:∀ m o q,qO9 (qBe 0 ps n0 H.next) L0 m=false->qAh (H.mrk fs).l m=some o->Γ.nm m=some q->q.nl=false->q.blk<w.heap.size/\¬ Own (Γ.see (qBe 0 ps n0 H.next) []) ⟨n0,L0⟩ q.blk:=by
   intro m o q hno hm hq hnl
   obtain⟨q',e1,e2⟩:=hR.objs m o hm
   rw [hq] at e1;injection e1 with e1;subst e1
   refine⟨e2.blk_lt hnl,?_⟩
   rintro⟨n,o0,q0,k1,k2,k3,k4,k5⟩
   have hso:=qGJ hH k1
   unfold qVt at hso
   simp only [qCE] at hso
   obtain⟨oc,j1,j2,j3,j4⟩:=hso
   have hne:=qLF hno (qF6 k1)
   exact hR.apart _ oc m o q0 q j1 hm hne k3 hq (by rw [j3];exact k2) k4 hnl k5
  have hwh:∀ m o,qAh (mrg (qBe 0 ps n0 H.next) n0 L0 (H.mrk fs) H0').l m=some o->(∃ n o',m=qBe 0 ps n0 H.next n/\qAh H0'.l n=some o'/\isCells o'.c=true/\o=qST (qBe 0 ps n0 H.next) o')∨(qO9 (qBe 0 ps n0 H.next) L0 m=false/\qAh (H.mrk fs).l m=some o):=by
   intro m o hm
   rcases qFa hm with h1 | h1
   ·obtain⟨n,o',k1,k2,k3,k4⟩:=qKC h1
    exact .inl ⟨n,o',k3,qGe hnd k1,k2,k4⟩
   ·exact .inr (qLC h1)
  have hfrq:∀ m o q,qO9 (qBe 0 ps n0 H.next) L0 m=false->qAh (H.mrk fs).l m=some o->Γ'.nm m=some q->Γ.nm m=some q:=by
   intro m o q _ hm hq
   obtain⟨q',e1,_⟩:=hR.objs m o hm
   have:=hle.nm _ _ e1
   rw [hq] at this
   rw [this];exact e1
  -- a block of the callee's that the heap owns,or that is not written any more,is none of an owned object of the frame
  have hblk:∀ n o' qc m o q,qAh H0'.l n=some o'->Γc.nm n=some qc->qc.nl=false->qO9 (qBe 0 ps n0 H.next) L0 m=false->qAh (H.mrk fs).l m=some o->Γ.nm m=some q->q.nl=false->(o'.fr=false∨o.fr=false)->isCells o'.c=true->qc.blk ≠ q.blk:=by
   intro n o' qc m o q k1 k2 k3 k4 k5 k6 k7 k8 k9 e
   obtain⟨l1,l2⟩:=hframe m o q k4 k5 k6 k7
   cases hfr:o'.fr with
   | false=>
    rcases h6.prov qc.blk ⟨n,o',qc,k1,hfr,k2,k3,rfl⟩ with c1 | c1
    ·omega
    ·exact l2 (e ▸ c1)
   | true=>
    have hof:o.fr=false:=by
     rcases k8 with k8 | k8
     ·rw [hfr] at k8;cases k8
     ·exact k8
    obtain⟨qx,x1,x2⟩:=h3.objs n o' k1
    rw [k2] at x1;injection x1 with x1;subst x1
    rcases (qAO k9).1 x2 with ⟨y,_⟩ | ⟨_,us,rr,z,g1,g2,g3,g3',g4,g5,g6,g7,g8⟩
    ·rw [k3] at y;cases y
    ·rcases h6.fzprov _ _ (g8 hfr) with c1 | c1 | c1
     ·have c1':Γ.fz qc.blk=some _:=c1
      rw [e,hR.own m o q k5 hof k6 k7] at c1'
      cases c1'
     ·omega
     ·exact l2 (e ▸ c1)
  refine⟨_,_,Γ',hq,qT5 hnm rfl h2,⟨h3.glob,fun n hn=>?_,h3.fzok,fun m o hm=>?_,fun m o q hm hf hq1 hnl=>?_,fun m o m' o' q q' hm hm' hne hq1 hq2 hf hnl hnl'=>?_⟩,fun m hm=>by have hm:m<H.next:=hm;simp only [Γ',if_pos hm],by show H.next<=H.next+_;omega,⟨h6.os,h6.tape,h6.output,h6.size,fun k hk hno=>h6.kept k hk (fun e=>hno (hOwn0 k e)),fun k hk=>?_,h6.fz,fun k a hk=>?_⟩⟩
  ·have hn:H.next+(H0'.next - n0)<=n:=hn
   simp only [Γ',if_neg (show ¬ n<H.next by omega)]
   exact h3.fresh _ (by omega)
  ·rcases hwh m o hm with ⟨n,o',rfl,k2,k3,rfl⟩ | ⟨k1,k2⟩
   ·obtain⟨q,x1,x2⟩:=h3.objs n o' k2
    exact⟨q,by rw [hnm];exact x1,qIu hnm rfl k3 x2⟩
   ·obtain⟨q,x1,x2⟩:=hR.objs m o k2
    refine⟨q,hle.nm _ _ x1,x2.ext hle fun hnl=>?_⟩
    obtain⟨l1,l2⟩:=hframe m o q k1 k2 x1 hnl
    exact h6.kept _ l1 l2
  ·rcases hwh m o hm with ⟨n,o',rfl,k2,k3,rfl⟩ | ⟨k1,k2⟩
   ·rw [hnm] at hq1
    exact h3.own n o' q k2 hf hq1 hnl
   ·have hq2:=hfrq m o q k1 k2 hq1
    have h0:=hR.own m o q k2 hf hq2 hnl
    obtain⟨l1,l2⟩:=hframe m o q k1 k2 hq2 hnl
    cases hx:Γc.fz q.blk with
    | none=>rfl
    | some a=>
     rcases h6.fzprov _ _ hx with c1 | c1 | c1
     ·have c1':Γ.fz q.blk=some _:=c1
      rw [h0] at c1';cases c1'
     ·omega
     ·exact(l2 c1).elim
  ·rcases hwh m o hm with ⟨n,o1,rfl,k2,k3,rfl⟩ | ⟨k1,k2⟩
   ·rw [hnm] at hq1
    rcases hwh m' o' hm' with ⟨n',o2,rfl,j2,j3,rfl⟩ | ⟨j1,j2⟩
    ·rw [hnm] at hq2
     exact h3.apart n o1 n' o2 q q' k2 j2 (fun e=>hne (by rw [e])) hq1 hq2 hf hnl hnl'
    ·exact hblk n o1 q m' o' q' k2 hq1 hnl j1 j2 (hfrq _ _ _ j1 j2 hq2) hnl' (.inl hf) k3
   ·have hq1':=hfrq m o q k1 k2 hq1
    rcases hwh m' o' hm' with ⟨n',o2,rfl,j2,j3,rfl⟩ | ⟨j1,j2⟩
    ·rw [hnm] at hq2
     exact Ne.symm (hblk n' o2 q' m o q j2 hq2 hnl' k1 k2 hq1' hnl (.inr hf) j3)
    ·exact hR.apart m o m' o' q q' k2 j2 hne hq1' (hfrq _ _ _ j1 j2 hq2) hf hnl hnl'
  ·obtain⟨m,o,q,k1,k2,k3,k4,rfl⟩:=hk
   rcases hwh m o k1 with ⟨n,o1,rfl,j2,j3,rfl⟩ | ⟨j1,j2⟩
   ·rw [hnm] at k3
    rcases h6.prov q.blk ⟨n,o1,q,j2,k2,k3,k4,rfl⟩ with c1 | c1
    ·exact .inl c1
    ·exact .inr (hOwn0 _ c1)
   ·exact .inr ⟨m,o,q,j2,k2,hfrq _ _ _ j1 j2 k3,k4,rfl⟩
  ·rcases h6.fzprov k a hk with c1 | c1 | c1
   ·exact .inl c1
   ·exact .inr (.inl c1)
   ·exact .inr (.inr (hOwn0 _ c1))
 have fin:∀ e w',Post C (Γ.see (qBe 0 ps n0 H.next) []) ⟨n0,L0⟩ w Q0 e w'->Post C Γ0 H w Q e w':=by
  intro e w' hP
  obtain⟨e0,H',Γ',k1,k2,k3⟩:=key e w' hP
  exact⟨e0,H',Γ',k1,k2,hLm.trans (k3.mono hLm.2.2.1)⟩
 have hM:m=.returning:=hM
 subst hM
 obtain⟨h1,h2⟩:=h _ w args' .returning hsee.1 hA1 rfl
 refine⟨h1,h2.mono fun e' m' w' hP=>?_⟩
 obtain⟨e0,u,H',Γ',⟨rfl,k1⟩,k2,k3,k4⟩:=hP
 have k3:m'=.returning:=k3
 subst k3
 obtain⟨e1,H1,Γ1,j1,j2,j3⟩:=fin e' w' ⟨e0,H',Γ',k1,k2,k4⟩
 rw [hQd] at j1
 exact⟨e1, .ret,H1,Γ1,j1,j2,rfl,j3⟩
end
end Go.Proofs.YtohfoaplnjcihaaGreatDoor.Y
namespace Go.Proofs.YtohfoaplnjcihaaGreatDoor
open Go Y
set_option maxRecDepth 100000
set_option maxHeartbeats 4000000
abbrev TWr:TypeId:=108
structure Wst where
 s:List UInt8
 n:Nat
 b:Bool
def Wst.sz (st:Wst):Nat:=st.n+st.s.length
def qNg (st:Wst) (x:List UInt8):Wst:=⟨(st.s++(if st.b then [32] else []))++x,st.n+1,true⟩
def puts (st:Wst) (l:qBT):Wst:=l.foldl qNg st
def qTu (st:Wst):Wst:=⟨st.s++[10],st.n,false⟩
def wt:qBT->Nat
 | []=>0
 | x::l=>x.length+2+wt l
theorem qAM:∀ a b:qBT,wt (a++b)=wt a+wt b
 | [],b=>by simp [wt]
 | x::a,b=>by rw [List.cons_append,wt,wt,qAM a b];omega
theorem qUc (st:Wst) (x:List UInt8):(qNg st x).sz<=st.sz+(x.length+2):=by
 have h3:(if st.b=true then [32] else []:List UInt8).length<=1:=by cases st.b <;> simp
 show st.n+1+((st.s++(if st.b then [32] else []))++x).length<=st.n+st.s.length+_
 rw [List.length_append,List.length_append];omega
theorem qSd (st:Wst):puts st []=st:=rfl
theorem qFz (st:Wst) (x:List UInt8) (l:qBT):puts st (x::l)=puts (qNg st x) l:=rfl
theorem qAE (st:Wst) (a b:qBT):puts st (a++b)=puts (puts st a) b:=List.foldl_append
theorem qAI:∀ (l:qBT) (st:Wst),(puts st l).sz<=st.sz+wt l
 | [],st=>Nat.le_refl _
 | x::l,st=>by
  have h1:=qAI l (qNg st x)
  have h2:=qUc st x
  rw [qFz,wt];omega
theorem qNf:∀ (l:qBT) (st:Wst),(puts st l).s=st.s++spW st.b l/\(puts st l).n=st.n+l.length/\(puts st l).b=(st.b || decide (l ≠ []))
 | [],st=>by simp [qSd,spW]
 | x::l,st=>by
  obtain⟨h1,h2,h3⟩:=qNf l (qNg st x)
  refine⟨?_,?_,?_⟩
  ·rw [qFz,h1,spW];simp [qNg]
  ·rw [qFz,h2];simp [qNg];omega
  ·rw [qFz,h3];simp [qNg]
def wOu (u:Bool) (k:Nat) (st:Wst):AObj:=⟨TWr,false, .bx [au u, .sl k 1 0 st.s.length, .p (i64 st.n), .p (.bool st.b)]⟩
abbrev wO (k:Nat) (st:Wst):AObj:=⟨TWr,false, .bx [.ptr 0 0 0, .sl k 1 0 st.s.length, .p (i64 st.n), .p (.bool st.b)]⟩
def bO (s:List UInt8):AObj:=⟨5,false, .pu (s.map ub)⟩
abbrev wH (u:Bool) (st:Wst):Hp:=⟨2,[(1,bO st.s),(0,wOu u 1 st)]⟩
abbrev wH' (st:Wst):Hp:=⟨3,[(2,bO st.s),(0,wO 2 st)]⟩
theorem qWa:liesAt cx.P cx.P.depth TWr 1 0 TB 1=true:=by kernel_rfl
theorem qWw (cs:List AV) (lk:Nat->Option AObj) (h:lk 0=some ⟨TWr,false, .bx cs⟩):qHw cx.P 214 104 (.ptr 0 0 0) lk=.val (.ptr 0 0 0):=by
 have h1:cx.P.underlying 214=some .unsafePointer:=rfl
 have h2:cx.P.underlying 104=some (.pointer TB):=rfl
 obtain⟨z,h3⟩:∃ z,qDB cx.P TB=some (z+1):=⟨_,rfl⟩
 unfold qHw
 rw [h1,h2]
 simp only []
 rw [h,h3]
 simp [qWa]
theorem qRX (u:Bool) (v a b:AV):HoldsG cx 108 [.ptr 0 0 0] ⟨2,[(0,⟨TWr,false, .bx [au u,v,a,b]⟩)]⟩ fun e H'=>e=.returned und/\H'=⟨2,[(0,⟨TWr,false, .bx [.ptr 0 0 0,v,a,b]⟩)]⟩:=by
 refine qA3 Tryz.func108 rfl rfl rfl ?_
 cases u
 ·refine qOw ?_
  conv=>whnf
  generalize hz:pop cx.P (.convert _ _ _) _ _=z
  rw [show z=.val (.ptr 0 0 0) from hz.symm.trans (qWw [.p .nilp,v,a,b] (qAh [(0,⟨TWr,false, .bx [.p .nilp,v,a,b]⟩)]) rfl)]
  exact⟨rfl,rfl⟩
 ·exact⟨rfl,rfl⟩
def wB (st:Wst) (x:List UInt8):Wst:=⟨st.s++x,st.n,st.b⟩
theorem qMr (u:Bool) (st:Wst) (b:UInt8) (hx:st.sz<=100000000):HoldsG cx 73 [.ptr 0 0 0, .p (u8 b)] (wH u st) fun e H'=>e=.returned (.p .nilIface)/\H'=wH' (wB st [b]):=by
 obtain⟨s,n,g⟩:=st
 have hx:n+s.length<=100000000:=hx
 refine qAA Tryz.func73 rfl rfl rfl ?_
 refine(qRX u (.sl 1 1 0 s.length) (.p (i64 n)) (.p (.bool g))).useE [] [] rfl ?_ ?_ ?_
 ·cases u <;> (exact sk)
 ·(exact sk)
 ·refine⟨by show 0+1<=_;simp,[ub b],rfl,?_⟩
  refine⟨by show 0+s.length<=(s.map ub).length;simp,s.map ub,qTN s,by show(s.length+1) * 1<=_;omega,(s++[b]).map ub,by simp,?_⟩
  exact⟨[],[(2,3)],[], .returned (.p .nilIface),⟨3,[(2,bO (s++[b])),(0,⟨TWr,false, .bx [.ptr 0 0 0, .sl 2 1 0 (s.length+1), .p (i64 n), .p (.bool g)]⟩)]⟩,rfl,⟨_,rfl,rfl⟩,sk,rfl,by simp [wH',wB,wO]⟩
theorem qNI (u:Bool) (st:Wst) (x:List UInt8) (hx:st.sz<=100000000) (hs:x.length<=100000000):HoldsG cx 64 [.ptr 0 0 0,vS x] (wH u st) fun e H'=>e=.returned (.tup [.p (i64 x.length), .p .nilIface])/\H'=wH' (wB st x):=by
 obtain⟨s,n,g⟩:=st
 have hx:n+s.length<=100000000:=hx
 refine qAA Tryz.func64 rfl rfl rfl ?_
 refine(qRX u (.sl 1 1 0 s.length) (.p (i64 n)) (.p (.bool g))).useE [] [] rfl ?_ ?_ ?_
 ·cases u <;> (exact sk)
 ·(exact sk)
 ·refine⟨by show 0+s.length<=(s.map ub).length;simp,s.map ub,qTN s,by show(s.length+x.length) * 1<=_;omega,(s++x).map ub,by simp,?_⟩
  exact⟨[],[(2,2)],[], .returned (.tup [.p (i64 x.length), .p .nilIface]),⟨3,[(2,bO (s++x)),(0,⟨TWr,false, .bx [.ptr 0 0 0, .sl 2 1 0 (s.length+x.length), .p (i64 n), .p (.bool g)]⟩)]⟩,rfl,⟨_,rfl,_,rfl,sk⟩,sk,rfl,by simp [wH',wB,wO]⟩
def WQ (st:Wst) (e:AE) (H':Hp):Prop:=e=.returned und/\H'=wH' st
theorem qXx (st:Wst) (hx:st.sz<=100000000):HoldsG cx 43 [.ptr 0 0 0] (wH true st) (WQ (qTu st)):=by
 refine qAA Tryz.func43 rfl rfl rfl ?_
 refine(qMr true st 10 hx).holds.useT [] [] rfl (sk) (sk) fun e0 H0 hq=>?_
 obtain⟨rfl,rfl⟩:=hq
 refine⟨rfl,_,⟨3,[(2,bO (st.s++[10])),(0,wO 2 (wB st [10]))]⟩,rfl,rfl,?_⟩
 exact⟨[],[],[], .returned und,wH' (qTu st),rfl,sk,sk,rfl,rfl⟩
theorem qTR {l:qBT} {k:Nat} (h:k<l.length):(l.map PV.str)[k]?=some (.str (l.getD k [])):=by
 rw [List.getElem?_map,List.getElem?_eq_getElem h,List.getD_eq_getElem?_getD,List.getElem?_eq_getElem h];rfl
theorem qPT {l:qBT} {k:Nat} (h:k<l.length):wt (l.take k)+(l.getD k []).length+2<=wt l:=by
 have e:l=l.take k++l.getD k []::l.drop (k+1):=by
  rw [List.getD_eq_getElem?_getD,List.getElem?_eq_getElem h]
  show l=l.take k++l[k]::l.drop (k+1)
  rw [<- List.drop_eq_getElem_cons h,List.take_append_drop]
 conv=>rhs;rw [e]
 rw [qAM,wt];omega
theorem qQy:∀ l:qBT,l.length<=wt l
 | []=>Nat.le_refl _
 | x::l=>by have:=qQy l;rw [wt,List.length_cons];omega
def sU (l:qBT):AObj:=⟨qX4,false, .pu (l.map PV.str)⟩
theorem qA2 (u:Bool) (st:Wst) (l:qBT) (h0:0<l.length) (hb:st.sz+wt l<=100000000):HoldsG cx 70 [.ptr 0 0 0, .sl 2 1 0 l.length] ⟨3,[(2,sU l),(1,bO st.s),(0,wOu u 1 st)]⟩ fun e H'=>e=.returned und/\H'=⟨4,[(3,bO (puts st l).s),(0,wO 3 (puts st l))]⟩:=by
 refine qAA Tryz.func70 rfl rfl rfl ?_
 refine⟨Wst × Nat × Bool,fun x=>[(0, .ptr 0 0 0),(6, .sl 2 1 0 l.length),(7, .p (i64 l.length)),(8, .p (i64 x.2.1))],fun x=>⟨4,[(2,sU l),(3,bO x.1.s),(0,wOu x.2.2 3 x.1)]⟩,fun x=>x.2.1<=l.length/\(0<x.2.1->x.2.2=true)/\x.1=puts st (l.take x.2.1),fun x=>l.length - x.2.1,?_,?_⟩
 ·exact⟨(st,0,u),⟨by simp,fun h=>absurd h (by simp),rfl⟩,qAC [] [(3,1)] [] rfl (sk) (by cases u <;> (exact sk)) rfl⟩
 rintro⟨⟨s,n,b⟩,k,u⟩ ⟨k1,k2,k3⟩
 simp only [] at k1 k2 k3
 have hsz:=qAI (l.take k) st
 rw [<- k3] at hsz
 have hsz:n+s.length<=st.sz+wt (l.take k):=hsz
 by_cases hk:k<l.length
 rotate_left
 ·have hu:=k2 (by omega)
  subst hu
  have e:puts st l=⟨s,n,b⟩:=by rw [k3,qBa (by omega)]
  refine And.intro (fun h=>absurd (show(k:Int)<(l.length:Nat) from h) (by omega)) (fun _=>?_)
  rw [e]
  exact⟨[],[(3,3)],[], .returned und,⟨4,[(3,bO s),(0,wO 3 ⟨s,n,b⟩)]⟩,rfl,sk,sk,rfl,rfl⟩
 have hw:=qPT hk
 have hlw:=qQy l
 have e:puts st (l.take (k+1))=qNg ⟨s,n,b⟩ (l.getD k []):=by rw [qAX [] hk,qAE,<- k3];rfl
 obtain⟨x,hx⟩:∃ x,x=l.getD k []:=⟨_,rfl⟩
 have hc:(l.map PV.str)[0+((k:Nat):Int).toNat]?=some (.str (l.getD k [])):=by rw [Int.toNat_natCast,Nat.zero_add];exact qTR hk
 rw [<- hx] at e hw hc
 clear k2 k3
 cases b
 ·refine And.intro (fun _=>?_) (fun h=>absurd (show(k:Int)<(l.length:Nat) by omega) h)
  refine⟨by omega,_,⟨.str x,hc,rfl⟩,?_⟩
  refine(qNI u ⟨s,n,true⟩ x (by show n+s.length<=_;omega) (by omega)).holds.useT [] [(1,3)] rfl (by cases u <;> (exact sk)) (sk) fun e0 H0 hq=>?_
  obtain⟨rfl,rfl⟩:=hq
  refine⟨rfl,_,⟨5,[(4,bO (s++x)),(0,wO 4 (wB ⟨s,n,true⟩ x)),(2,sU l)]⟩,rfl,rfl,?_⟩
  refine⟨((n:Nat):Int)+1,w6z,?_⟩
  refine⟨((k:Nat):Int)+1,w6z,?_⟩
  exact⟨(⟨s++x,n+1,true⟩,k+1,true),⟨hk,fun _=>rfl,by rw [e];simp [qNg]⟩,qAC [] [(3,4)] [] rfl (sk) (sk) rfl,by show l.length - (k+1)<l.length - k;omega⟩
 ·refine And.intro (fun _=>?_) (fun h=>absurd (show(k:Int)<(l.length:Nat) by omega) h)
  refine⟨by omega,_,⟨.str x,hc,rfl⟩,?_⟩
  refine(qMr u ⟨s,n,true⟩ 32 (by show n+s.length<=_;omega)).holds.useT [] [(1,3)] rfl (by cases u <;> (exact sk)) (sk) fun e0 H0 hq=>?_
  obtain⟨rfl,rfl⟩:=hq
  refine⟨rfl,_,⟨5,[(4,bO (s++[32])),(0,wO 4 (wB ⟨s,n,true⟩ [32])),(2,sU l)]⟩,rfl,rfl,?_⟩
  refine(qNI true ⟨s++[32],n,true⟩ x (by show n+(s++[32]).length<=_;simp;omega) (by omega)).holds.useT [] [(1,4)] rfl (sk) (sk) fun e0 H0 hq=>?_
  obtain⟨rfl,rfl⟩:=hq
  refine⟨rfl,_,⟨6,[(5,bO ((s++[32])++x)),(0,wO 5 (wB ⟨s++[32],n,true⟩ x)),(2,sU l)]⟩,rfl,rfl,?_⟩
  refine⟨((n:Nat):Int)+1,w6z,?_⟩
  refine⟨((k:Nat):Int)+1,w6z,?_⟩
  exact⟨(⟨(s++[32])++x,n+1,true⟩,k+1,true),⟨hk,fun _=>rfl,by rw [e];simp [qNg]⟩,qAC [] [(3,5)] [] rfl (sk) (sk) rfl,by show l.length - (k+1)<l.length - k;omega⟩
theorem qTf (u:Bool) (st:Wst) (l:qBT) (h0:0<l.length) (hb:st.sz+wt l<=100000000):HoldsD cx 70 [.ptr 0 0 0, .sl 2 1 0 l.length] .ret ⟨3,[(2,sU l),(1,bO st.s),(0,wOu u 1 st)]⟩ fun e m H'=>m=.ret/\(e=.returned und/\H'=⟨4,[(3,bO (puts st l).s),(0,wO 3 (puts st l))]⟩):=by
 refine qLG Tryz.func70 rfl rfl rfl ?_
 refine⟨Wst × Nat × Bool,fun x=>[(0, .ptr 0 0 0),(6, .sl 2 1 0 l.length),(7, .p (i64 l.length)),(8, .p (i64 x.2.1))],fun x=>⟨4,[(2,sU l),(3,bO x.1.s),(0,wOu x.2.2 3 x.1)]⟩,fun x=>x.2.1<=l.length/\(0<x.2.1->x.2.2=true)/\x.1=puts st (l.take x.2.1),fun x=>l.length - x.2.1,?_,?_⟩
 ·exact⟨(st,0,u),⟨by simp,fun h=>absurd h (by simp),rfl⟩,qAC [] [(3,1)] [] rfl (sk) (by cases u <;> (exact sk)) rfl⟩
 rintro⟨⟨s,n,b⟩,k,u⟩ ⟨k1,k2,k3⟩
 simp only [] at k1 k2 k3
 have hsz:=qAI (l.take k) st
 rw [<- k3] at hsz
 have hsz:n+s.length<=st.sz+wt (l.take k):=hsz
 by_cases hk:k<l.length
 rotate_left
 ·have hu:=k2 (by omega)
  subst hu
  have e:puts st l=⟨s,n,b⟩:=by rw [k3,qBa (by omega)]
  refine And.intro (fun h=>absurd (show(k:Int)<(l.length:Nat) from h) (by omega)) (fun _=>?_)
  rw [e]
  exact⟨[],[(3,3)],[], .returned und,⟨4,[(3,bO s),(0,wO 3 ⟨s,n,b⟩)]⟩,rfl,sk,sk,rfl,rfl,rfl⟩
 have hw:=qPT hk
 have hlw:=qQy l
 have e:puts st (l.take (k+1))=qNg ⟨s,n,b⟩ (l.getD k []):=by rw [qAX [] hk,qAE,<- k3];rfl
 obtain⟨x,hx⟩:∃ x,x=l.getD k []:=⟨_,rfl⟩
 have hc:(l.map PV.str)[0+((k:Nat):Int).toNat]?=some (.str (l.getD k [])):=by rw [Int.toNat_natCast,Nat.zero_add];exact qTR hk
 rw [<- hx] at e hw hc
 clear k2 k3
 cases b
 ·refine And.intro (fun _=>?_) (fun h=>absurd (show(k:Int)<(l.length:Nat) by omega) h)
  refine⟨by omega,_,⟨.str x,hc,rfl⟩,?_⟩
  refine(qNI u ⟨s,n,true⟩ x (by show n+s.length<=_;omega) (by omega)).holds.useT [] [(1,3)] rfl (by cases u <;> (exact sk)) (sk) fun e0 H0 hq=>?_
  obtain⟨rfl,rfl⟩:=hq
  refine⟨rfl,_,⟨5,[(4,bO (s++x)),(0,wO 4 (wB ⟨s,n,true⟩ x)),(2,sU l)]⟩,rfl,rfl,?_⟩
  refine⟨((n:Nat):Int)+1,w6z,?_⟩
  refine⟨((k:Nat):Int)+1,w6z,?_⟩
  exact⟨(⟨s++x,n+1,true⟩,k+1,true),⟨hk,fun _=>rfl,by rw [e];simp [qNg]⟩,qAC [] [(3,4)] [] rfl (sk) (sk) rfl,by show l.length - (k+1)<l.length - k;omega⟩
 ·refine And.intro (fun _=>?_) (fun h=>absurd (show(k:Int)<(l.length:Nat) by omega) h)
  refine⟨by omega,_,⟨.str x,hc,rfl⟩,?_⟩
  refine(qMr u ⟨s,n,true⟩ 32 (by show n+s.length<=_;omega)).holds.useT [] [(1,3)] rfl (by cases u <;> (exact sk)) (sk) fun e0 H0 hq=>?_
  obtain⟨rfl,rfl⟩:=hq
  refine⟨rfl,_,⟨5,[(4,bO (s++[32])),(0,wO 4 (wB ⟨s,n,true⟩ [32])),(2,sU l)]⟩,rfl,rfl,?_⟩
  refine(qNI true ⟨s++[32],n,true⟩ x (by show n+(s++[32]).length<=_;simp;omega) (by omega)).holds.useT [] [(1,4)] rfl (sk) (sk) fun e0 H0 hq=>?_
  obtain⟨rfl,rfl⟩:=hq
  refine⟨rfl,_,⟨6,[(5,bO ((s++[32])++x)),(0,wO 5 (wB ⟨s++[32],n,true⟩ x)),(2,sU l)]⟩,rfl,rfl,?_⟩
  refine⟨((n:Nat):Int)+1,w6z,?_⟩
  refine⟨((k:Nat):Int)+1,w6z,?_⟩
  exact⟨(⟨(s++[32])++x,n+1,true⟩,k+1,true),⟨hk,fun _=>rfl,by rw [e];simp [qNg]⟩,qAC [] [(3,5)] [] rfl (sk) (sk) rfl,by show l.length - (k+1)<l.length - k;omega⟩
end Go.Proofs.YtohfoaplnjcihaaGreatDoor
namespace Go.Proofs
open Go.Shelf
def Tryz.laysM171_ren:Go.Shelf.Ren:=⟨fun | 171=>69 | 243=>113 | 246=>157 | 283=>181 | 284=>182 | 285=>183 | 286=>184 | 129=>198 | 317=>197 | 318=>199 | 319=>200 | 320=>201 | 337=>204 | 338=>205 | n=>n,fun | 3=>3 | 9=>9 | 2=>2 | 4=>4 | 171=>233 | 0=>0 | 53=>190 | 37=>40 | 5=>5 | 173=>236 | 212=>245 | 51=>187 | 20=>20 | 213=>246 | 46=>144 | 232=>252 | 233=>253 | n=>n,fun | 17=>5 | 18=>6 | 19=>7 | n=>n⟩
theorem Tryz.laysM171:Go.Proofs.LaysM.n171 Tryz.prog Tryz.laysM171_ren:={
 mixed:=by kernel_rfl
 f129:=Tryz.func198.trans (congrArg some (by kernel_rfl))
 f171:=Tryz.func69.trans (congrArg some (by kernel_rfl))
 f243:=Tryz.func113.trans (congrArg some (by kernel_rfl))
 f246:=Tryz.func157.trans (congrArg some (by kernel_rfl))
 f283:=Tryz.func181.trans (congrArg some (by kernel_rfl))
 f284:=Tryz.func182.trans (congrArg some (by kernel_rfl))
 f285:=Tryz.func183.trans (congrArg some (by kernel_rfl))
 f286:=Tryz.func184.trans (congrArg some (by kernel_rfl))
 f317:=Tryz.func197.trans (congrArg some (by kernel_rfl))
 f318:=Tryz.func199.trans (congrArg some (by kernel_rfl))
 f319:=Tryz.func200.trans (congrArg some (by kernel_rfl))
 f320:=Tryz.func201.trans (congrArg some (by kernel_rfl))
 f337:=Tryz.func204.trans (congrArg some (by kernel_rfl))
 f338:=Tryz.func205.trans (congrArg some (by kernel_rfl))
 t0:=Tryz.underlying0
 a0:=Tryz.isAgg0
 z0:=Tryz.sizeOf0
 v0:=Tryz.zeroValue0
 t2:=Tryz.underlying2
 a2:=Tryz.isAgg2
 z2:=Tryz.sizeOf2
 v2:=Tryz.zeroValue2
 t3:=Tryz.underlying3
 a3:=Tryz.isAgg3
 z3:=Tryz.sizeOf3
 v3:=Tryz.zeroValue3
 t4:=Tryz.underlying4
 a4:=Tryz.isAgg4
 z4:=Tryz.sizeOf4
 v4:=Tryz.zeroValue4
 t5:=Tryz.underlying5
 a5:=Tryz.isAgg5
 z5:=Tryz.sizeOf5
 v5:=Tryz.zeroValue5
 t9:=Tryz.underlying9
 a9:=Tryz.isAgg9
 z9:=Tryz.sizeOf9
 v9:=Tryz.zeroValue9
 t20:=Tryz.underlying20
 a20:=Tryz.isAgg20
 z20:=Tryz.sizeOf20
 v20:=Tryz.zeroValue20
 t37:=Tryz.underlying40
 a37:=Tryz.isAgg40
 z37:=Tryz.sizeOf40
 v37:=Tryz.zeroValue40
 t46:=Tryz.underlying144
 a46:=Tryz.isAgg144
 z46:=Tryz.sizeOf144
 v46:=Tryz.zeroValue144
 t51:=Tryz.underlying187
 a51:=Tryz.isAgg187
 z51:=Tryz.sizeOf187
 v51:=Tryz.zeroValue187
 t53:=Tryz.underlying190
 a53:=Tryz.isAgg190
 z53:=Tryz.sizeOf190
 v53:=Tryz.zeroValue190
 t171:=Tryz.underlying233
 a171:=Tryz.isAgg233
 z171:=Tryz.sizeOf233
 v171:=Tryz.zeroValue233
 t173:=Tryz.underlying236
 a173:=Tryz.isAgg236
 z173:=Tryz.sizeOf236
 v173:=Tryz.zeroValue236
 t212:=Tryz.underlying245
 a212:=Tryz.isAgg245
 z212:=Tryz.sizeOf245
 v212:=Tryz.zeroValue245
 t213:=Tryz.underlying246
 a213:=Tryz.isAgg246
 z213:=Tryz.sizeOf246
 t232:=Tryz.underlying252
 a232:=Tryz.isAgg252
 z232:=Tryz.sizeOf252
 v232:=Tryz.zeroValue252
 t233:=Tryz.underlying253
 a233:=Tryz.isAgg253
 z233:=Tryz.sizeOf253
 v233:=Tryz.zeroValue253
 g17:=by kernel_rfl
 g18:=by kernel_rfl
 g19:=by kernel_rfl
 i0:=by kernel_rfl
 i2:=by kernel_rfl
 i3:=by kernel_rfl
 i4:=by kernel_rfl
 i5:=by kernel_rfl
 i9:=by kernel_rfl
 i20:=by kernel_rfl
 i37:=by kernel_rfl
 i46:=by kernel_rfl
 i51:=by kernel_rfl
 i53:=by kernel_rfl
 i171:=by kernel_rfl
 i173:=by kernel_rfl
 i212:=by kernel_rfl
 i232:=by kernel_rfl
 i233:=by kernel_rfl
 m17:=by kernel_rfl
 m18:=by kernel_rfl
 m19:=by kernel_rfl }
open Go.RowKit Go.Sort Go.Lib in
theorem Tryz.strconv_Itoa (n : Int) (h0 : -9223372036854775808 <= n) (h1 : n <= 9223372036854775807) (w : World) (htab : Lib.TabIs Tryz.prog w "internal/strconv.uint64pow10" .u64 Lib.pow10Tab) :
  Calls Tryz.prog 69 #[.int .i64 n] w fun e w'=>e=.returned (.string ⟨(Lib.itoa n).toArray⟩)/\∃ k os,w'=grow (w.drewN k) os:=Any.strconv_Itoa Tryz.laysM171 n h0 h1 w htab
end Go.Proofs
namespace Go.Proofs.YtohfoaplnjcihaaGreatDoor
open Go Y RowKit
set_option maxRecDepth 100000
set_option maxHeartbeats 4000000
theorem qMT {Γ:Gm} {w w':World} (hR:R cx Γ ⟨0,[]⟩ w) (hb:Below w.heap.size w w'):Later cx 0 Γ ⟨0,[]⟩ w Γ ⟨0,[]⟩ w':=by
 have hfz:∀ b arr,Γ.fz b=some arr->∃ t z,w'.heap[b]?=some (.cells ⟨arr⟩ t z):=by
  intro b arr h
  obtain⟨t,z,e⟩:=hR.fzok b arr h
  have hlt:b<w.heap.size:=by
   rcases Nat.lt_or_ge b w.heap.size with h1 | h1
   ·exact h1
   ·rw [Array.getElem?_eq_none h1] at e;cases e
  exact⟨t,z,by rw [hb.block b hlt];exact e⟩
 refine⟨⟨hR.glob,hR.fresh,hfz,fun n o hn=>by simp [qAh] at hn,fun n o q hn=>by simp [qAh] at hn,fun n o m p q q' hn=>by simp [qAh] at hn⟩,Ext.refl _ _,Nat.le_refl _,⟨hb.os,hb.tape,hb.output,hb.size,fun k hk _=>hb.block k hk,fun k hk=>.inr hk,Fzn.le_refl _,fun k a h=>.inl h⟩⟩
theorem qOo {g : FuncId} {fn : Func} {c : Code} {args : List PV} {x : PV} (hf : cx.P.funcs[g]? = some fn) (hname : (fn.name == "runtime.NumGoroutine") = false) (hbd : fn.body = some c) (hx : Res [] 5 (.p x) x)
  (h:∀ (Γ:Gm) (w:World) (args':List Value),R cx Γ ⟨0,[]⟩ w->VRL Γ (args.map .p) args'->∃ v',VP Γ.fz x v'/\Calls cx.P g ⟨args'⟩ w fun e w'=>e=.returned v'/\Below w.heap.size w w'):Pure cx g args (·=.ret [x]):=by
 intro Γ w args' hR hA
 obtain⟨v',h1,h2⟩:=h Γ w args' hR hA
 refine .inl ⟨qEa hf hname hbd _ _,h2.mono fun e w' ⟨he,hw⟩=>?_⟩
 subst he
 exact⟨.returned (.p x),⟨0,[]⟩,Γ,⟨.ret [x],⟨rfl,_,rfl,hx⟩,rfl⟩,⟨v',rfl,h1⟩,qMT hR hw⟩
theorem qPZ {fz:Fzn} {k:IntKind}:∀ (l:List Int) (us:List Value),VPL fz (l.map fun z=>PV.int k z) us->us=l.map fun z=>Value.int k z
 | [],us,h=>by simpa only [List.map,VPL] using h
 | z::l,us,h=>by
  simp only [List.map,VPL,VP] at h
  obtain⟨u,us',rfl,rfl,h⟩:=h
  rw [qPZ l us' h];rfl
theorem qSf {Γ : Gm} {w : World} (hR : R cx Γ ⟨0, []⟩ w) : Lib.TabIs Tryz.prog w "internal/strconv.uint64pow10" .u64 Lib.pow10Tab := by
 obtain⟨h,arr',ha,hlen⟩:=hR.glob 5 (pow10L.map fun z=>PV.int .u64 z) rfl
 simp only [VP] at h
 obtain⟨b,o,arr,us,h1,h2,h5,pre,post,h3,h4,_⟩:=h
 injection h1 with h1
 injection h1 with h1
 injection h1 with hb ho
 subst hb ho
 have hus:=qPZ _ _ h5
 have hp:pre=[]:=List.eq_nil_of_length_eq_zero h4
 subst hp
 have e1:arr'=arr:=by rw [ha] at h2;injection h2
 subst e1
 have hpost:post=[]:=by
  apply List.eq_nil_of_length_eq_zero
  rw [h3,hus] at hlen
  simp only [List.length_append,List.length_map,List.length_nil] at hlen
  omega
 subst hpost
 obtain⟨t,z,e⟩:=hR.fzok _ _ h2
 have hg : Tryz.prog.globalNamed "internal/strconv.uint64pow10" = some 5 := by kernel_rfl
 unfold Lib.TabIs World.var?
 rw [hg]
 simp only [Option.bind,e,h3,hus,List.nil_append,List.append_nil]
 rfl
theorem qTM:∀ n,n<10->UInt8.ofNat (48+n)=tenL.getD n 0:=by decide
theorem qRU:∀ (f n:Nat),n<10 ^ (f+1)->Lib.decDigits n=digN (f+1) n
 | f,n,h=>by
  rw [Lib.decDigits,digN]
  by_cases c:n<10
  ·rw [dif_pos c,if_pos c,qTM n c]
  ·rw [dif_neg c,if_neg c]
   obtain⟨g,rfl⟩:∃ g,f=g+1:=by
    cases f with
    | zero=>exfalso;omega
    | succ g=>exact⟨g,rfl⟩
   rw [qRU g (n / 10) (by rw [Nat.pow_succ] at h;omega),qTM (n % 10) (by omega)]
theorem qCo (n:Int) (h:qBm n=true):Pure cx 69 [i64 n] (·=.ret [.str (qAa n)]):=by
 simp only [qBm,Bool.and_eq_true,decide_eq_true_eq] at h
 refine qOo Tryz.func69 rfl rfl rfl fun Γ w args' hR hA=>?_
 simp only [List.map,VRL,VR,VP] at hA
 obtain⟨a,as',rfl,rfl,rfl⟩:=hA
 have e:Lib.itoa n=qAa n:=by
  rw [Lib.itoa,if_neg (by omega),qRU 3 n.toNat (by show n.toNat<10000;omega)];rfl
 have hi:=Tryz.strconv_Itoa n (by omega) (by omega) w (qSf hR)
 rw [e] at hi
 refine⟨_,rfl,hi.mono fun e w' ⟨h1,k,os,h2⟩=>⟨h1,?_⟩⟩
 subst h2
 exact⟨rfl,rfl,rfl,by show w.heap.size<=(w.heap++os).size;rw [Array.size_append];omega,fun j hj=>by show(w.heap++os)[j]?=_;rw [Array.getElem?_append_left hj]⟩
end Go.Proofs.YtohfoaplnjcihaaGreatDoor
namespace Go.Proofs.YtohfoaplnjcihaaGreatDoor
open Go Y
set_option maxRecDepth 100000
set_option maxHeartbeats 4000000
theorem qQF (st:Wst) (r:Rf) (hr:qBp r=true) (hb:st.sz+wt (qBY r)<=100000000):HoldsG cx 114 [.ptr 0 0 0, .p r.pv] (wH true st) (WQ (puts st (qBY r))):=by
 obtain⟨nm,m,pl,n⟩:=r
 rw [qBp,Bool.and_eq_true] at hr
 obtain⟨hn,hr⟩:=hr
 simp only [] at hr hn
 by_cases h3:m=3
 ·subst h3
  have e:qBY ⟨nm,3,pl,n⟩=([]++[nm])++[tLB,qHN,tRB]:=rfl
  rw [e] at hb ⊢
  refine qAA Tryz.func114 rfl rfl rfl ?_
  refine(qA2 true (puts st ([])) ([nm]) (by simp) (by have hz:=qAI ([]) st;simp only [qAM,wt] at hb hz ⊢;omega)).holds.useT [] [(2,3)] rfl (sk) (sk) fun e0 H0 hq=>?_
  rw [<- qAE] at hq
  obtain⟨rfl,rfl⟩:=hq
  refine⟨rfl,_,⟨5,((4,bO (puts st ([]++[nm])).s)::(0,wO 4 (puts st ([]++[nm])))::[(2,rO ⟨nm,3,pl,n⟩)])⟩,rfl,rfl,?_⟩
  refine And.intro (fun h=>absurd (show(3:Int)=1 from h) (by decide)) (fun _=>?_)
  refine And.intro (fun h=>absurd (show(3:Int)=2 from h) (by decide)) (fun _=>?_)
  refine And.intro (fun _=>?_) (fun h=>absurd rfl h)
  refine(qA2 true (puts st ([]++[nm])) ([tLB,qHN,tRB]) (by simp) (by have hz:=qAI ([]++[nm]) st;simp only [qAM,wt] at hb hz ⊢;omega)).holds.useT [] [(1,4),(2,5)] rfl (sk) (sk) fun e0 H0 hq=>?_
  rw [<- qAE] at hq
  obtain⟨rfl,rfl⟩:=hq
  refine⟨rfl,_,⟨7,((6,bO (puts st ([]++[nm]++[tLB,qHN,tRB])).s)::(0,wO 6 (puts st ([]++[nm]++[tLB,qHN,tRB])))::[(2,rO ⟨nm,3,pl,n⟩)])⟩,rfl,rfl,?_⟩
  exact⟨[],[(2,6)],[], .returned und,_,rfl,sk,sk,rfl,rfl⟩
 by_cases h2:m=2
 ·subst h2
  have hr:(decide (pl=[]) && qBm n)=true:=hr
  simp only [Bool.and_eq_true] at hr
  have e:qBY ⟨nm,2,pl,n⟩=([]++[nm])++[tLB,qAa n,tRB]:=rfl
  rw [e] at hb ⊢
  refine qAA Tryz.func114 rfl rfl rfl ?_
  refine(qA2 true (puts st ([])) ([nm]) (by simp) (by have hz:=qAI ([]) st;simp only [qAM,wt] at hb hz ⊢;omega)).holds.useT [] [(2,3)] rfl (sk) (sk) fun e0 H0 hq=>?_
  rw [<- qAE] at hq
  obtain⟨rfl,rfl⟩:=hq
  refine⟨rfl,_,⟨5,((4,bO (puts st ([]++[nm])).s)::(0,wO 4 (puts st ([]++[nm])))::[(2,rO ⟨nm,2,pl,n⟩)])⟩,rfl,rfl,?_⟩
  refine And.intro (fun h=>absurd (show(2:Int)=1 from h) (by decide)) (fun _=>?_)
  refine And.intro (fun _=>?_) (fun h=>absurd rfl h)
  refine(qCo n hr.2).eq rfl ?_
  refine(qA2 true (puts st ([]++[nm])) ([tLB,qAa n,tRB]) (by simp) (by have hz:=qAI ([]++[nm]) st;simp only [qAM,wt] at hb hz ⊢;omega)).holds.useT [] [(1,4),(2,5)] rfl (sk) (sk) fun e0 H0 hq=>?_
  rw [<- qAE] at hq
  obtain⟨rfl,rfl⟩:=hq
  refine⟨rfl,_,⟨7,((6,bO (puts st ([]++[nm]++[tLB,qAa n,tRB])).s)::(0,wO 6 (puts st ([]++[nm]++[tLB,qAa n,tRB])))::[(2,rO ⟨nm,2,pl,n⟩)])⟩,rfl,rfl,?_⟩
  exact⟨[],[(2,6)],[], .returned und,_,rfl,sk,sk,rfl,rfl⟩
 by_cases h1:m=1
 ·subst h1
  have hr:(qAo pl && qBm n)=true:=hr
  simp only [Bool.and_eq_true] at hr
  by_cases h0:0<n
  ·have e:qBY ⟨nm,1,pl,n⟩=((([]++[nm])++[tLB,pl])++[qEU,qAa n])++[tRB]:=by simp [qBY,qE5,h0]
   rw [e] at hb ⊢
   refine qAA Tryz.func114 rfl rfl rfl ?_
   refine(qA2 true (puts st ([])) ([nm]) (by simp) (by have hz:=qAI ([]) st;simp only [qAM,wt] at hb hz ⊢;omega)).holds.useT [] [(2,3)] rfl (sk) (sk) fun e0 H0 hq=>?_
   rw [<- qAE] at hq
   obtain⟨rfl,rfl⟩:=hq
   refine⟨rfl,_,⟨5,((4,bO (puts st ([]++[nm])).s)::(0,wO 4 (puts st ([]++[nm])))::[(2,rO ⟨nm,1,pl,n⟩)])⟩,rfl,rfl,?_⟩
   refine And.intro (fun _=>?_) (fun h=>absurd rfl h)
   refine(qA2 true (puts st ([]++[nm])) ([tLB,pl]) (by simp) (by have hz:=qAI ([]++[nm]) st;simp only [qAM,wt] at hb hz ⊢;omega)).holds.useT [] [(1,4),(2,5)] rfl (sk) (sk) fun e0 H0 hq=>?_
   rw [<- qAE] at hq
   obtain⟨rfl,rfl⟩:=hq
   refine⟨rfl,_,⟨7,((6,bO (puts st ([]++[nm]++[tLB,pl])).s)::(0,wO 6 (puts st ([]++[nm]++[tLB,pl])))::[(2,rO ⟨nm,1,pl,n⟩)])⟩,rfl,rfl,?_⟩
   refine And.intro (fun _=>?_) (fun h=>absurd h0 h)
   refine(qCo n hr.2).eq rfl ?_
   refine(qA2 true (puts st (([]++[nm])++[tLB,pl])) ([qEU,qAa n]) (by simp) (by have hz:=qAI (([]++[nm])++[tLB,pl]) st;simp only [qAM,wt] at hb hz ⊢;omega)).holds.useT [] [(1,6),(2,7)] rfl (sk) (sk) fun e0 H0 hq=>?_
   rw [<- qAE] at hq
   obtain⟨rfl,rfl⟩:=hq
   refine⟨rfl,_,⟨9,((8,bO (puts st (([]++[nm])++[tLB,pl]++[qEU,qAa n])).s)::(0,wO 8 (puts st (([]++[nm])++[tLB,pl]++[qEU,qAa n])))::[(2,rO ⟨nm,1,pl,n⟩)])⟩,rfl,rfl,?_⟩
   refine(qA2 true (puts st ((([]++[nm])++[tLB,pl])++[qEU,qAa n])) ([tRB]) (by simp) (by have hz:=qAI ((([]++[nm])++[tLB,pl])++[qEU,qAa n]) st;simp only [qAM,wt] at hb hz ⊢;omega)).holds.useT [] [(1,8),(2,9)] rfl (sk) (sk) fun e0 H0 hq=>?_
   rw [<- qAE] at hq
   obtain⟨rfl,rfl⟩:=hq
   refine⟨rfl,_,⟨11,((10,bO (puts st ((([]++[nm])++[tLB,pl])++[qEU,qAa n]++[tRB])).s)::(0,wO 10 (puts st ((([]++[nm])++[tLB,pl])++[qEU,qAa n]++[tRB])))::[(2,rO ⟨nm,1,pl,n⟩)])⟩,rfl,rfl,?_⟩
   exact⟨[],[(2,10)],[], .returned und,_,rfl,sk,sk,rfl,rfl⟩
  ·have e:qBY ⟨nm,1,pl,n⟩=(([]++[nm])++[tLB,pl])++[tRB]:=by simp [qBY,qE5,h0]
   rw [e] at hb ⊢
   refine qAA Tryz.func114 rfl rfl rfl ?_
   refine(qA2 true (puts st ([])) ([nm]) (by simp) (by have hz:=qAI ([]) st;simp only [qAM,wt] at hb hz ⊢;omega)).holds.useT [] [(2,3)] rfl (sk) (sk) fun e0 H0 hq=>?_
   rw [<- qAE] at hq
   obtain⟨rfl,rfl⟩:=hq
   refine⟨rfl,_,⟨5,((4,bO (puts st ([]++[nm])).s)::(0,wO 4 (puts st ([]++[nm])))::[(2,rO ⟨nm,1,pl,n⟩)])⟩,rfl,rfl,?_⟩
   refine And.intro (fun _=>?_) (fun h=>absurd rfl h)
   refine(qA2 true (puts st ([]++[nm])) ([tLB,pl]) (by simp) (by have hz:=qAI ([]++[nm]) st;simp only [qAM,wt] at hb hz ⊢;omega)).holds.useT [] [(1,4),(2,5)] rfl (sk) (sk) fun e0 H0 hq=>?_
   rw [<- qAE] at hq
   obtain⟨rfl,rfl⟩:=hq
   refine⟨rfl,_,⟨7,((6,bO (puts st ([]++[nm]++[tLB,pl])).s)::(0,wO 6 (puts st ([]++[nm]++[tLB,pl])))::[(2,rO ⟨nm,1,pl,n⟩)])⟩,rfl,rfl,?_⟩
   refine And.intro (fun h=>absurd h h0) (fun _=>?_)
   refine(qA2 true (puts st (([]++[nm])++[tLB,pl])) ([tRB]) (by simp) (by have hz:=qAI (([]++[nm])++[tLB,pl]) st;simp only [qAM,wt] at hb hz ⊢;omega)).holds.useT [] [(1,6),(2,7)] rfl (sk) (sk) fun e0 H0 hq=>?_
   rw [<- qAE] at hq
   obtain⟨rfl,rfl⟩:=hq
   refine⟨rfl,_,⟨9,((8,bO (puts st (([]++[nm])++[tLB,pl]++[tRB])).s)::(0,wO 8 (puts st (([]++[nm])++[tLB,pl]++[tRB])))::[(2,rO ⟨nm,1,pl,n⟩)])⟩,rfl,rfl,?_⟩
   exact⟨[],[(2,8)],[], .returned und,_,rfl,sk,sk,rfl,rfl⟩
 ·have e:qBY ⟨nm,m,pl,n⟩=[]++[nm]:=by simp [qBY,qE5,h1,h2,h3]
  rw [e] at hb ⊢
  refine qAA Tryz.func114 rfl rfl rfl ?_
  refine(qA2 true (puts st ([])) ([nm]) (by simp) (by have hz:=qAI ([]) st;simp only [qAM,wt] at hb hz ⊢;omega)).holds.useT [] [(2,3)] rfl (sk) (sk) fun e0 H0 hq=>?_
  rw [<- qAE] at hq
  obtain⟨rfl,rfl⟩:=hq
  refine⟨rfl,_,⟨5,((4,bO (puts st ([]++[nm])).s)::(0,wO 4 (puts st ([]++[nm])))::[(2,rO ⟨nm,m,pl,n⟩)])⟩,rfl,rfl,?_⟩
  refine And.intro (fun h=>absurd h h1) (fun _=>?_)
  refine And.intro (fun h=>absurd h h2) (fun _=>?_)
  refine And.intro (fun h=>absurd h h3) (fun _=>?_)
  exact⟨[],[(2,4)],[], .returned und,_,rfl,sk,sk,rfl,rfl⟩
theorem qNN {α:Type} {f:α->qBT} {l:List α} {k:Nat} (d:α) (h:k<l.length):qFF f (l.take (k+1))=qFF f (l.take k)++((if k=0 then [] else [qAv])++f (l.getD k d)):=by
 rw [qAX d h]
 cases k with
 | zero=>simp [qFF]
 | succ k=>
  rw [if_neg (by omega)]
  cases l with
  | nil=>simp at h
  | cons a l=>simp [qFF]
theorem qTT {α:Type} {f:α->qBT} (l:List α) (k:Nat):wt (qFF f (l.take k))<=wt (qFF f l):=by
 cases l with
 | nil=>simp
 | cons a l=>
  cases k with
  | zero=>exact Nat.zero_le _
  | succ k=>
   have e:l.flatMap (fun b=>qAv::f b)=(l.take k).flatMap (fun b=>qAv::f b)++(l.drop k).flatMap fun b=>qAv::f b:=by rw [<- List.flatMap_append,List.take_append_drop]
   rw [List.take_succ_cons,qFF,qFF,e,qAM,qAM,qAM]
   omega
theorem qQD {key:List UInt8} {l:List Rf} {k:Nat} (h:k<l.length):qAe key (l.take (k+1))=(qAe key (l.take k)++[if k=0 then key else qAv])++qBY (l.getD k rf0):=by
 have hs:=qNN (f:=qBY) rf0 h
 have hn:l.take (k+1) ≠ []:=fun e=>by have:=congrArg List.length e;rw [List.length_take,List.length_nil] at this;omega
 rw [qAe,if_neg hn,hs]
 by_cases c:k=0
 ·subst c;simp [qAe,qFF]
 ·have hn:l.take k ≠ []:=fun e=>by have:=congrArg List.length e;rw [List.length_take,List.length_nil] at this;omega
  rw [qAe,if_neg hn,if_neg c,if_neg c];simp
theorem qUP {key:List UInt8} (l:List Rf) (k:Nat):wt (qAe key (l.take k))<=wt (qAe key l):=by
 unfold qAe
 split
 ·exact Nat.zero_le _
 ·rename_i h
  rw [if_neg (fun e=>h (by rw [e];simp))]
  have:=qTT (f:=qBY) l k
  simp only [wt];omega
theorem qNZ (st:Wst) (key:List UInt8) (l:List Rf) (hv:∀ r∈l,qBp r=true) (hl:l.length<=8) (hb0:st.sz+wt (qAe key l)<=100000000):HoldsG cx 71 [.ptr 0 0 0, .p (.str key), .p (qBw l)] (wH true st) (WQ (puts st (qAe key l))):=by
 have hm:(l.map Rf.cells).length=l.length:=List.length_map ..
 refine qAA Tryz.func71 rfl rfl rfl ?_
 refine⟨qBT × Nat,fun x=>[(0, .ptr 0 0 0),(1, .p (.str key)),(8, .p (qBw l)),(9, .p (i64 (l.map Rf.cells).length)),(10, .p (i64 x.2))],fun x=>wH' (puts st x.1),fun x=>x.2<=l.length/\x.1=qAe key (l.take x.2),fun x=>l.length - x.2,?_,?_⟩
 ·exact⟨([],0),⟨Nat.zero_le _,rfl⟩,qAC [] [(2,1)] [] rfl (sk) (sk) rfl⟩
 rintro⟨P,k⟩ ⟨k1,k2⟩
 simp only [] at k1 k2
 refine QAD (fun m1=>?_) (fun m1=>?_)
 rotate_left
 ·have m1:¬ (k:Int)<((l.map Rf.cells).length:Nat):=m1
  rw [hm] at m1
  have e:l.take k=l:=qBa (by omega)
  rw [e] at k2
  exact⟨[],[(2,2)],[], .returned und,wH' (puts st P),rfl,sk,sk,rfl,by rw [k2]⟩
 have m1:(k:Int)<((l.map Rf.cells).length:Nat):=m1
 rw [hm] at m1
 have hk:k<l.length:=by omega
 have hr:=hv _ (qAJ rf0 hk)
 have et:=qQD (key:=key) hk
 have hw:=qUP (key:=key) l (k+1)
 have hcell:=qIW hk
 generalize l.getD k rf0=r at hr et hcell
 rw [et,<- k2] at hw
 rw [<- k2] at et
 clear k2
 have hb:st.sz+wt ((P++[if k=0 then key else qAv])++qBY r)<=100000000:=by omega
 refine⟨_,⟨by omega,r.cells,hcell,rfl⟩,?_⟩
 by_cases c:k=0
 ·rw [if_pos c] at hb et
  refine And.intro (fun _=>?_) (fun h=>absurd (show(k:Int)=0 by omega) h)
  refine(qA2 true (puts st (P)) ([key]) (by simp) (by have hz:=qAI (P) st;simp only [qAM,wt] at hb hz ⊢;omega)).holds.useT [] [(1,2),(2,4)] rfl (sk) (sk) fun e0 H0 hq=>?_
  rw [<- qAE] at hq
  obtain⟨rfl,rfl⟩:=hq
  refine⟨rfl,_,⟨6,((5,bO (puts st (P++[key])).s)::(0,wO 5 (puts st (P++[key])))::[(3,rO r)])⟩,rfl,rfl,?_⟩
  refine(qQF (puts st (P++[key])) r hr (by have hz:=qAI (P++[key]) st;simp only [qAM,wt] at hb hz ⊢;omega)).holds.useT [] [(1,5)] rfl (sk) (sk) fun e0 H0 hq=>?_
  unfold WQ at hq
  rw [<- qAE] at hq
  obtain⟨rfl,rfl⟩:=hq
  refine⟨rfl,_,⟨7,((6,bO (puts st ((P++[key])++qBY r)).s)::(0,wO 6 (puts st ((P++[key])++qBY r)))::[(3,rO r)])⟩,rfl,rfl,?_⟩
  refine⟨_,w6z,?_⟩
  exact⟨((P++[key])++qBY r,k+1),⟨hk,et.symm⟩,qAC [] [(2,6)] [] rfl (sk) (sk) rfl,by show l.length - (k+1)<l.length - k;omega⟩
 ·rw [if_neg c] at hb et
  refine And.intro (fun h=>absurd (show(k:Int)=0 from h) (by omega)) (fun _=>?_)
  refine(qA2 true (puts st (P)) ([qAv]) (by simp) (by have hz:=qAI (P) st;simp only [qAM,wt] at hb hz ⊢;omega)).holds.useT [] [(1,2),(2,4)] rfl (sk) (sk) fun e0 H0 hq=>?_
  rw [<- qAE] at hq
  obtain⟨rfl,rfl⟩:=hq
  refine⟨rfl,_,⟨6,((5,bO (puts st (P++[qAv])).s)::(0,wO 5 (puts st (P++[qAv])))::[(3,rO r)])⟩,rfl,rfl,?_⟩
  refine(qQF (puts st (P++[qAv])) r hr (by have hz:=qAI (P++[qAv]) st;simp only [qAM,wt] at hb hz ⊢;omega)).holds.useT [] [(1,5)] rfl (sk) (sk) fun e0 H0 hq=>?_
  unfold WQ at hq
  rw [<- qAE] at hq
  obtain⟨rfl,rfl⟩:=hq
  refine⟨rfl,_,⟨7,((6,bO (puts st ((P++[qAv])++qBY r)).s)::(0,wO 6 (puts st ((P++[qAv])++qBY r)))::[(3,rO r)])⟩,rfl,rfl,?_⟩
  refine⟨_,w6z,?_⟩
  exact⟨((P++[qAv])++qBY r,k+1),⟨hk,et.symm⟩,qAC [] [(2,6)] [] rfl (sk) (sk) rfl,by show l.length - (k+1)<l.length - k;omega⟩
end Go.Proofs.YtohfoaplnjcihaaGreatDoor
namespace Go.Proofs.YtohfoaplnjcihaaGreatDoor
open Go Y
set_option maxRecDepth 100000
set_option maxHeartbeats 4000000
theorem qPj:∀ n,n<10->(tenL.getD n 0).toNat=48+n:=by decide
structure DigOK (t:List UInt8) (n:Nat) (f:Nat):Prop where
 ne:t ≠ []
 len:t.length<=f
 dig:∀ c∈t,48<=c.toNat/\c.toNat<=57
 zero:n=0->t=[48]
 head:0<n->(t.headD 0).toNat ≠ 48
 val:qJh t=n
theorem qTx:∀ (f n:Nat),n<10 ^ (f+1)->DigOK (digN (f+1) n) n (f+1)
 | f,n,h=>by
  rw [digN]
  by_cases c:n<10
  ·rw [if_pos c]
   have hv:=qPj n c
   refine⟨by simp,by simp,fun x hx=>?_,fun e=>by subst e;rfl,fun e=>?_,?_⟩
   ·rw [List.mem_singleton.1 hx];omega
   ·show(tenL.getD n 0).toNat ≠ 48;omega
   ·show 10 * (0:Int)+(((tenL.getD n 0).toNat:Int) - 48)=n;omega
  ·rw [if_neg c]
   obtain⟨g,rfl⟩:∃ g,f=g+1:=by
    cases f with
    | zero=>exfalso;omega
    | succ g=>exact⟨g,rfl⟩
   have ih:=qTx g (n / 10) (by rw [Nat.pow_succ] at h;omega)
   have hv:=qPj (n % 10) (by omega)
   refine⟨by simp,by have:=ih.len;simp only [List.length_append,List.length_singleton];omega,fun x hx=>?_,fun e=>by omega,fun _=>?_,?_⟩
   ·rcases List.mem_append.1 hx with hx | hx
    ·exact ih.dig x hx
    ·rw [List.mem_singleton.1 hx];omega
   ·have hh:=ih.head (by omega)
    have hne:=ih.ne
    cases hd:digN (g+1) (n / 10) with
    | nil=>exact absurd hd hne
    | cons x r=>rw [hd] at hh;exact hh
   ·rw [qFn,ih.val];omega
theorem qKU {n:Int} (h:qBm n=true):qIY (qAa n)=true/\qJh (qAa n)=n:=by
 simp only [qBm,Bool.and_eq_true,decide_eq_true_eq] at h
 have hd:=qTx 3 n.toNat (by show n.toNat<10000;omega)
 refine⟨?_,by rw [qAa,hd.val];omega⟩
 unfold qIY qAa
 simp only [Bool.and_eq_true,decide_eq_true_eq,Bool.or_eq_true]
 refine⟨⟨⟨hd.ne,hd.len⟩,qCP.2 fun c hc=>?_⟩,?_⟩
 ·have:=hd.dig c hc
  simp only [qBf,Bool.and_eq_true,decide_eq_true_eq];exact this
 ·by_cases c:n.toNat=0
  ·exact .inl (hd.zero c)
  ·exact .inr (hd.head (by omega))
def AtW (ws:List Wd):Nat->qBT->Prop
 | _,[]=>True
 | q,t::r=>txt ws q=t/\AtW ws (q+1) r
theorem qQm {t s:List UInt8} (h:qAo t=true) (hs:s∈keysL++marksL):t ≠ s:=by
 intro e
 subst e
 have key:∀ s∈keysL++marksL,qAo s=false:=by decide
 rw [key t hs] at h
 cases h
theorem qTk {t s:List UInt8} (h:qIY t=true) (hs:s∈keysL++marksL):t ≠ s:=by
 intro e
 subst e
 have key:∀ s∈keysL++marksL,qIY s=false:=by decide
 rw [key t hs] at h
 cases h
section
variable {ws:List Wd} (hg:GoodW ws)
include hg
end
end Go.Proofs.YtohfoaplnjcihaaGreatDoor
namespace Go.Proofs.YtohfoaplnjcihaaGreatDoor
open Go Y
set_option maxRecDepth 100000
set_option maxHeartbeats 4000000
theorem qRD {l:List Int}:∀ (f k:Nat),qPS l f k=true->∀ i,k<=i->i<k+f->qBm (l.getD i 0)=true/\(i=0∨l.getD (i - 1) 0<l.getD i 0)
 | 0,k,_,i,h1,h2=>absurd h2 (by omega)
 | f+1,k,h,i,h1,h2=>by
  rw [qPS] at h
  simp only [Bool.and_eq_true,Bool.or_eq_true,decide_eq_true_eq] at h
  by_cases c:i=k
  ·subst c
   exact h.1
  ·exact qRD f (k+1) h.2 i (by omega) (by omega)
theorem qDk {l:List Int} (h:qHO l=true):l ≠ []/\(∀ n∈l,qBm n=true)/\qPQ l=l:=by
 simp only [qHO,Bool.and_eq_true,decide_eq_true_eq] at h
 obtain⟨⟨h1,h2⟩,h3⟩:=h
 have hi:=qRD l.length 0 h3
 refine⟨fun e=>by rw [e] at h1;simp at h1,fun n hn=>?_,?_⟩
 ·obtain⟨i,hi1,rfl⟩:=List.getElem_of_mem hn
  have:=(hi i (by omega) (by omega)).1
  rw [List.getD_eq_getElem?_getD,List.getElem?_eq_getElem hi1] at this
  exact this
 ·have hinc:Inc l:=by
   rw [Inc,List.pairwise_iff_getElem]
   have key:∀ (d i:Nat),i+d+1<l.length->l.getD i 0<l.getD (i+d+1) 0:=by
    intro d
    induction d with
    | zero=>
     intro i hd
     have:=(hi (i+0+1) (by omega) (by omega)).2
     rcases this with h | h
     ·omega
     ·exact h
    | succ d ih=>
     intro i hd
     have a:=ih i (by omega)
     have:=(hi (i+(d+1)+1) (by omega) (by omega)).2
     rcases this with h | h
     ·omega
     ·rw [show i+(d+1)+1 - 1=i+d+1 by omega] at h
      omega
   intro i j hi1 hj hij
   have:=key (j - i - 1) i (by omega)
   rw [show i+(j - i - 1)+1=j by omega,List.getD_eq_getElem?_getD,List.getElem?_eq_getElem hi1,List.getD_eq_getElem?_getD,List.getElem?_eq_getElem hj] at this
   exact this
  have hs:=qJr l [] List.Pairwise.nil
  refine qMa hs.1 hinc fun y=>?_
  rw [qPQ] at *
  rw [hs.2]
  simp
def qXE (t:List UInt8):Prop:=qAo t=true∨t=qHF∨t=tLP∨t=qB0
structure CB (ws:List Wd) (c:Cd):Prop where
 neg:∀ F q,4 * (ws.length - q)+2<=F->AtW ws q (qAW 3 c)->qHT ws F q=.inr (c,q+(qAW 3 c).length)
 conj:∀ F q,4 * (ws.length - q)+3<=F->AtW ws q (qAW 2 c)->∃ f,4 * (ws.length - (q+(qAW 2 c).length))+1<=f/\qC0 ws F q=qLp ws f c (q+(qAW 2 c).length)
 cond:∀ F q,4 * (ws.length - q)+4<=F->AtW ws q (qAW 1 c)->¬ txt ws (q+(qAW 1 c).length)=qDj->∃ f,4 * (ws.length - (q+(qAW 1 c).length))+1<=f/\qDJ ws F q=orR ws f c (q+(qAW 1 c).length)
 head:∃ t r,qAj c=t::r/\qXE t
section
variable {ws:List Wd} (hg:GoodW ws)
end
end Go.Proofs.YtohfoaplnjcihaaGreatDoor
namespace Go.Proofs.YtohfoaplnjcihaaGreatDoor
open Go Y
set_option maxRecDepth 100000
set_option maxHeartbeats 4000000
theorem qLK {f:Nat->Cd->Option Nat}:∀ {ar:List Cd} {l k:Nat},ar.foldlM f l=some k->∀ c∈ar,∃ a b,f a c=some b
 | [],_,_,_,c,hc=>by simp at hc
 | x::ar,l,k,h,c,hc=>by
  rw [List.foldlM_cons] at h
  cases hx:f l x with
  | none=>rw [hx] at h;cases h
  | some m=>
   rw [hx] at h
   rcases List.mem_cons.1 hc with rfl | hc
   ·exact⟨l,m,hx⟩
   ·exact qLK (ar:=ar) h c hc
theorem qIz {n rel val:Int} {r:Rf} {st:List Int} (h:qA0 n rel val r st=true):n=0/\rel=0/\val=0/\r=rf0/\st=[]:=by
 simp only [qA0,Bool.and_eq_true,decide_eq_true_eq] at h
 exact⟨h.1.1.1.1,h.1.1.1.2,h.1.1.2,h.1.2,h.2⟩
theorem qXL {α:Type} {l:List α} (h:l.length=2):∃ a b,l=[a,b]:=by
 rcases l with _ | ⟨a,_ | ⟨b,_ | ⟨c,l⟩⟩⟩
 ·cases h
 ·cases h
 ·exact⟨a,b,rfl⟩
 ·simp only [List.length_cons] at h;omega
theorem qYK {α:Type} {l:List α} (h:l.length=1):∃ a,l=[a]:=by
 rcases l with _ | ⟨a,_ | ⟨b,l⟩⟩
 ·cases h
 ·exact⟨a,rfl⟩
 ·simp only [List.length_cons] at h;omega
inductive Sh (P:Cd->Prop):Cd->Prop
 | leaf (op n rel val:Int) (r:Rf) (st:List Int) (h7:¬ op=7) (h8:¬ op=8) (h9:¬ op=9) (h:qAT op n rel val r st=true):Sh P (.mk op n rel val r st [])
 | neg (a:Cd) (h:P a):Sh P (.mk 7 0 0 0 rf0 [] [a])
 | conj (a b:Cd) (ha:P a) (hb:P b):Sh P (.mk 8 0 0 0 rf0 [] [a,b])
 | disj (a b:Cd) (ha:P a) (hb:P b):Sh P (.mk 9 0 0 0 rf0 [] [a,b])
theorem qJV {d:Nat} {c:Cd} {left k:Nat} (h:qAp (d+1) c left=some k):Sh (fun a=>∃ l k,qAp d a l=some k) c:=by
 obtain⟨op,n,rel,val,r,st,ar⟩:=c
 rw [qAp] at h
 split at h
 ·cases h
 ·split at h
  ·rename_i hh
   have hm:=qLK h
   unfold qAb at hh
   split at hh
   ·rename_i h0
    simp only [Bool.and_eq_true,decide_eq_true_eq] at hh
    have:ar=[]:=List.length_eq_zero_iff.1 hh.2
    subst this
    unfold qAc at h0
    refine .leaf op n rel val r st ?_ ?_ ?_ hh.1
    ·rintro rfl;cases h0
    ·rintro rfl;cases h0
    ·rintro rfl;cases h0
   ·rename_i h0
    simp only [Bool.and_eq_true,decide_eq_true_eq] at hh
    obtain⟨hk,hp⟩:=hh
    obtain⟨rfl,rfl,rfl,rfl,rfl⟩:=qIz hp
    unfold qAc at h0 hk
    by_cases c7:op=7
    ·subst c7
     obtain⟨a,rfl⟩:=qYK hk
     exact .neg a (hm a (by simp))
    ·rw [if_neg c7] at h0 hk
     by_cases c8:op=8
     ·subst c8
      obtain⟨a,b,rfl⟩:=qXL hk
      exact .conj a b (hm a (by simp)) (hm b (by simp))
     ·by_cases c9:op=9
      ·subst c9
       obtain⟨a,b,rfl⟩:=qXL hk
       exact .disj a b (hm a (by simp)) (hm b (by simp))
      ·rw [if_neg (by omega)] at h0
       exact absurd rfl h0
  ·cases h
theorem Sh.mono {P Q:Cd->Prop} {c:Cd} (h:Sh P c) (hpq:∀ a,P a->Q a):Sh Q c:=by
 cases h with
 | leaf op n rel val r st h7 h8 h9 h=>exact .leaf op n rel val r st h7 h8 h9 h
 | neg a h=>exact .neg a (hpq a h)
 | conj a b ha hb=>exact .conj a b (hpq a ha) (hpq b hb)
 | disj a b ha hb=>exact .disj a b (hpq a ha) (hpq b hb)
theorem qB5 {op n rel val:Int} {r:Rf} {st:List Int} (h7:¬ op=7) (h8:¬ op=8) (h9:¬ op=9):qAj (.mk op n rel val r st [])=qCF op n rel val r st:=by
 rw [qAj,qUw,if_neg h9,if_neg h8,if_neg h7]
theorem qDI (a:Cd):qAj (.mk 7 0 0 0 rf0 [] [a])=qHF::qAW 3 a:=by
 rw [qAj,qFJ,qFJ];rfl
theorem qCe (a b:Cd):qAj (.mk 8 0 0 0 rf0 [] [a,b])=qAW 2 a++qDj::qAW 3 b:=by
 rw [qAj,qFJ,qFJ,qFJ];rfl
theorem qCd (a b:Cd):qAj (.mk 9 0 0 0 rf0 [] [a,b])=qAW 1 a++tOr::qAW 2 b:=by
 rw [qAj,qFJ,qFJ,qFJ];rfl
theorem qSn {op:Int} (h7:¬ op=7) (h8:¬ op=8) (h9:¬ op=9):lvl op=4:=by rw [lvl,if_neg h9,if_neg h8,if_neg h7]
theorem qC9 {k:Nat} {c:Cd} (h:¬ lvl c.op<k):qAW k c=qAj c:=if_neg h
section
variable {ws:List Wd} (hg:GoodW ws)
include hg
end
end Go.Proofs.YtohfoaplnjcihaaGreatDoor
namespace Go.Proofs.YtohfoaplnjcihaaGreatDoor
open Go Y
set_option maxRecDepth 100000
set_option maxHeartbeats 4000000
theorem qGd {l:List Int} (h:qCS l=true):l ≠ []/\l.length<=8/\∀ n∈l,qGL n=true:=by
 simp only [qCS,Bool.and_eq_true,decide_eq_true_eq,List.all_eq_true] at h
 exact⟨fun e=>by rw [e] at h;exact absurd h.1.1 (by decide),h.1.2,h.2⟩
section
variable {ws:List Wd} (hg:GoodW ws)
include hg
end
end Go.Proofs.YtohfoaplnjcihaaGreatDoor
namespace Go.Proofs.YtohfoaplnjcihaaGreatDoor
open Go Y
set_option maxRecDepth 100000
set_option maxHeartbeats 4000000
abbrev Pcs:=List (List UInt8 × List UInt8)
def qCr (l:Pcs):List UInt8:=l.flatMap fun x=>x.1++x.2
structure GapOK (g:List UInt8):Prop where
 sep:∃ c r,g=c::r/\qMX c
 skip:∀ r,qFs r=true->qTD g r
def qDy (t:List UInt8):Prop:=∃ k,qAk k t=true
def qO7 (t:List UInt8):Int:=(qBN t).1
def wordsAt:Nat × Nat->List UInt8->Pcs->List Wd
 | _,_,[]=>[]
 | p,g0,(w,g)::r=>⟨qO7 w,w,(qIT p g0).1,(qIT p g0).2⟩::wordsAt ((qIT p g0).1,(qIT p g0).2+w.length) g r
theorem qG1:∀ (p:Nat × Nat) (g0:List UInt8) (l:Pcs),(wordsAt p g0 l).map Wd.text=l.map Prod.fst
 | _,_,[]=>rfl
 | p,g0,(w,g)::r=>by rw [wordsAt,List.map_cons,qG1];rfl
theorem qHd (p:Nat × Nat) (g0:List UInt8) (l:Pcs):(wordsAt p g0 l).length=l.length:=by
 rw [<- List.length_map (f:=Wd.text),qG1,List.length_map]
theorem qD8 {t:List UInt8} (h:qDy t):qAk (qO7 t) t=true:=by
 obtain⟨k,h⟩:=h
 have:=(qKx h).1
 rw [qO7,this];exact h
def qGi:List UInt8->Pcs->List UInt8
 | g,[]=>g
 | _,x::r=>qGi x.2 r
theorem qKG:∀ {g:List UInt8} {l:Pcs},(g=[]∨GapOK g)->(∀ x∈l,GapOK x.2)->qGi g l=[]∨GapOK (qGi g l)
 | _,[],h,_=>h
 | _,x::r,_,hl=>by
  show qGi x.2 r=[]∨GapOK (qGi x.2 r)
  exact qKG (.inr (hl x (List.mem_cons_self ..))) fun y hy=>hl y (List.mem_cons_of_mem _ hy)
theorem qRH {g r:List UInt8} (h:GapOK g):Fol [] (g++r):=by
 obtain⟨c,t,rfl,hc⟩:=h.sep
 exact Fol.bl [] c (t++r) hc
theorem qJp {g r:List UInt8} (h:g=[]∨GapOK g) (hr:qFs r=true):qTD g r:=by
 rcases h with rfl | h
 ·exact fun f _=>qKr hr f
 ·exact h.skip r hr
theorem qNE {t g r:List UInt8} (ht:qDy t) (h:GapOK g):qBN (t++(g++r))=(qO7 t,t)/\qFs (t++(g++r))=true:=by
 have hk:=qD8 ht
 obtain⟨k1,k2⟩:=qKx hk
 have hne:t ≠ []:=by
  have:=(qDC hk).1
  intro e;subst e;simp at this
 refine⟨qUh hk (by rw [List.append_nil];exact k1) (qRH h),qSD hne (by rw [List.append_nil];exact k2) (qRH h)⟩
theorem qQ3:∀ (l:Pcs) (p:Nat × Nat) (g0 more:List UInt8),(g0=[]∨GapOK g0)->(∀ x∈l,qDy x.1/\GapOK x.2)->∃ T,g0++(qCr l++more)=T++(qGi g0 l++more)/\Lay p T (wordsAt p g0 l) (qGi g0 l++more)
 | [],p,g0,more,_,_=>⟨[],rfl,Lay.nil p _⟩
 | (w,g)::r,p,g0,more,h0,hl=>by
  obtain⟨hw,hgp⟩:=hl (w,g) (List.mem_cons_self ..)
  obtain⟨T,e,hL⟩:=qQ3 r ((qIT p g0).1,(qIT p g0).2+w.length) g more (.inr hgp) fun x hx=>hl x (List.mem_cons_of_mem _ hx)
  have e2:qCr ((w,g)::r)=w++(g++qCr r):=by rw [qCr,List.flatMap_cons];simp [qCr]
  refine⟨g0++(w++T),?_,?_⟩
  ·rw [e2]
   show g0++(w++(g++qCr r)++more)=g0++(w++T)++(qGi g r++more)
   rw [List.append_assoc,List.append_assoc,List.append_assoc,List.append_assoc,<- e]
  ·have hs:=qNE (r:=qCr r++more) hw hgp
   rw [e] at hs
   exact Lay.cons (w:=⟨qO7 w,w,(qIT p g0).1,(qIT p g0).2⟩) (qJp h0 hs.2) hs.1 (qD8 hw) rfl rfl rfl hL
theorem qOk {l:Pcs} {g0:List UInt8} (h0:g0=[]∨GapOK g0) (hl:∀ x∈l,qDy x.1/\GapOK x.2) (hn:l.length<=1500):qDd (g0++qCr l)=.ok (wordsAt (1,1) g0 l):=by
 obtain⟨T,e,hL⟩:=qQ3 l (1,1) g0 [] h0 hl
 rw [List.append_nil,List.append_nil] at e
 rw [List.append_nil] at hL
 have hlen:=hL.len
 have hw:=qHd (1,1) g0 l
 have:=qNc hL [] [] (T.length+(qGi g0 l).length - (wordsAt (1,1) g0 l).length+1) rfl (by simpa [hw] using hn)
 simp only [List.nil_append,List.length_nil] at this
 rw [e,qDd,List.length_append,show T.length+(qGi g0 l).length+1=T.length+(qGi g0 l).length - (wordsAt (1,1) g0 l).length+1+(wordsAt (1,1) g0 l).length by omega,this,qDe]
 have hs:=qJp (qKG h0 fun x hx=>(hl x hx).2) (show qFs []=true from rfl) (T++qGi g0 l).length (by simp)
 rw [List.append_nil] at hs
 rw [List.drop_left,hs]
 show qFT _ _ _ _=_
 rw [qFT,if_pos (by rw [List.length_append];exact Nat.le_refl _)]
theorem qOl {l:Pcs} {g0:List UInt8} (h0:g0=[]∨GapOK g0) (hl:∀ x∈l,qDy x.1/\GapOK x.2) (hn:1500<l.length):∃ p c,qDd (g0++qCr l)=.err p c:=by
 obtain⟨⟨w,g⟩,r2,hd⟩:∃ x r2,l.drop 1500=x::r2:=by
  cases h:l.drop 1500 with
  | nil=>have:=congrArg List.length h;rw [List.length_drop] at this;simp at this;omega
  | cons x r=>exact⟨x,r,rfl⟩
 have hmem:(w,g)∈l:=List.mem_of_mem_drop (by rw [hd];exact List.mem_cons_self ..)
 obtain⟨l1,hl1⟩:∃ l1,l1=l.take 1500:=⟨_,rfl⟩
 have h1:∀ x∈l1,qDy x.1/\GapOK x.2:=fun x hx=>hl x (by rw [hl1] at hx;exact List.mem_of_mem_take hx)
 have hlen1:l1.length=1500:=by rw [hl1,List.length_take];omega
 have er:qCr l=qCr l1++(w++(g++qCr r2)):=by
  rw [<- List.take_append_drop 1500 l,hd,<- hl1]
  simp [qCr]
 obtain⟨hw,hgp⟩:=hl _ hmem
 obtain⟨T,e,hL⟩:=qQ3 l1 (1,1) g0 (w++(g++qCr r2)) h0 h1
 have hlen:=hL.len
 have hwl:=qHd (1,1) g0 l1
 have hs:=qNE (r:=qCr r2) hw hgp
 have hwne:1<=w.length:=(qDC (qD8 hw)).1
 obtain⟨suf,hsuf⟩:∃ suf,suf=qGi g0 l1:=⟨_,rfl⟩
 have hsufok:=qKG h0 (l:=l1) fun x hx=>(h1 x hx).2
 rw [<- hsuf] at e hL hsufok
 obtain⟨more,hmore⟩:∃ more,more=w++(g++qCr r2):=⟨_,rfl⟩
 rw [<- hmore] at e hL hs er
 have hml:1<=more.length:=by rw [hmore,List.length_append];omega
 have:=qNc hL [] [] (T.length+(suf++more).length - (wordsAt (1,1) g0 l1).length+1) rfl (by simp [hwl,hlen1])
 simp only [List.nil_append,List.length_nil] at this
 rw [er,e,qDd,List.length_append,show T.length+(suf++more).length+1=T.length+(suf++more).length - (wordsAt (1,1) g0 l1).length+1+(wordsAt (1,1) g0 l1).length by omega,this,qDe]
 have hsk:=qJp hsufok hs.2 (T++(suf++more)).length (by simp)
 rw [List.drop_left,hsk]
 show ∃ p c,qFT _ _ _ _=_
 rw [qFT,if_neg (by simp only [List.length_append];omega)]
 have hdr:(T++(suf++more)).drop (T.length+suf.length)=more:=by rw [<- List.drop_drop,List.drop_left,List.drop_left]
 rw [hdr,hs.1]
 have hkr:qAk (qO7 w) w=true:=qD8 hw
 simp only [hkr]
 rw [if_pos (by rw [hwl,hlen1])]
 exact⟨_,_,rfl⟩
theorem qLJ {g:List UInt8} (h:g ≠ []) (hb:∀ c∈g,qUz c):GapOK g:=by
 cases g with
 | nil=>exact absurd rfl h
 | cons c r=>exact⟨⟨c,r,rfl, .inl (hb c (List.mem_cons_self ..))⟩,fun r' hr=>qHj hr hb⟩
theorem qWl:GapOK [32]:=qLJ (by simp) (fun c hc=>by rw [List.mem_singleton.1 hc];exact .inl rfl)
theorem qWm:GapOK [10]:=qLJ (by simp) (fun c hc=>by rw [List.mem_singleton.1 hc];exact .inr rfl)
def qDS (e:List UInt8):qBT->Pcs
 | []=>[]
 | [w]=>[(w,e)]
 | w::v::r=>(w,[32])::qDS e (v::r)
theorem qI2 (e:List UInt8):∀ {x:qBT},x ≠ []->qCr (qDS e x)=spW false x++e
 | [],h=>absurd rfl h
 | [w],_=>by simp [qDS,qCr,spW]
 | w::v::r,_=>by
  have ih:=qI2 e (x:=v::r) (by simp)
  rw [qDS,qCr,List.flatMap_cons]
  show w++[32]++qCr (qDS e (v::r))=_
  rw [ih]
  simp [spW]
theorem qI1 (e:List UInt8):∀ x:qBT,(qDS e x).map Prod.fst=x
 | []=>rfl
 | [w]=>rfl
 | w::v::r=>by rw [qDS,List.map_cons,qI1 e (v::r)]
theorem qNl {e:List UInt8} (he:GapOK e):∀ {x:qBT},(∀ t∈x,qDy t)->∀ y∈qDS e x,qDy y.1/\GapOK y.2
 | [],_,y,hy=>by simp [qDS] at hy
 | [w],h,y,hy=>by
  simp only [qDS,List.mem_singleton] at hy
  subst hy
  exact⟨h w (by simp),he⟩
 | w::v::r,h,y,hy=>by
  rw [qDS] at hy
  rcases List.mem_cons.1 hy with rfl | hy
  ·exact⟨h w (by simp),qWl⟩
  ·exact qNl he (fun t ht=>h t (List.mem_cons_of_mem _ ht)) y hy
def qHv (e:List UInt8) (ds:List De):Pcs:=ds.flatMap fun d=>qDS e (declT d)
def qOa (e:List UInt8) (ds:List De):List UInt8:=ds.flatMap fun d=>spW false (declT d)++e
theorem qMl (d:De):declT d ≠ []:=by rw [declT];simp
theorem qGa (e:List UInt8):∀ ds:List De,qCr (qHv e ds)=qOa e ds
 | []=>rfl
 | d::ds=>by
  have ih:=qGa e ds
  rw [qHv,List.flatMap_cons,qOa,List.flatMap_cons]
  show qCr (qDS e (declT d)++qHv e ds)=_++qOa e ds
  rw [<- ih,qCr,List.flatMap_append]
  show qCr (qDS e (declT d))++qCr (qHv e ds)=_
  rw [qI2 e (qMl d)]
theorem qIy (e:List UInt8):∀ ds:List De,(qHv e ds).map Prod.fst=ds.flatMap declT
 | []=>rfl
 | d::ds=>by
  have ih:=qIy e ds
  rw [qHv,List.flatMap_cons,List.map_append,qI1,List.flatMap_cons]
  show declT d++(qHv e ds).map Prod.fst=_
  rw [ih]
theorem qKL:∀ ds:List De,(ds.flatMap declT).length=qHJ ds
 | []=>rfl
 | d::ds=>by rw [List.flatMap_cons,List.length_append,qKL ds];rfl
def qFg (x:qBT):Prop:=∀ t∈x,qDy t
theorem qA7:qFg []:=fun t h=>by simp at h
theorem qAH {t:List UInt8} {x:qBT} (h:qDy t) (hx:qFg x):qFg (t::x):=fun u hu=>by
 rcases List.mem_cons.1 hu with rfl | hu
 ·exact h
 ·exact hx u hu
theorem qBC {x y:qBT} (hx:qFg x) (hy:qFg y):qFg (x++y):=fun u hu=>by
 rcases List.mem_append.1 hu with hu | hu
 ·exact hx u hu
 ·exact hy u hu
theorem qDN {t:List UInt8} (h:qAo t=true):qDy t:=⟨1,h⟩
theorem qDZ {n:Int} (h:qBm n=true):qDy (qAa n):=⟨3,(qKU h).1⟩
theorem qAy:∀ t∈keysL++marksL,qDy t:=by
 intro t ht
 rcases List.mem_append.1 ht with h | h
 ·exact⟨2,(by decide:∀ t∈keysL,qAk 2 t=true) t h⟩
 ·exact⟨4,(by decide:∀ t∈marksL,qAk 4 t=true) t h⟩
theorem qU3 {x:qBT} (h:∀ t∈x,t∈keysL++marksL):qFg x:=fun t ht=>qAy t (h t ht)
theorem qB3 {r:Rf} (h:qBp r=true):qFg (qBY r)/\(qBY r).length<=6:=by
 obtain⟨nm,m,pl,n⟩:=r
 rw [qBp,Bool.and_eq_true] at h
 obtain⟨hn,h⟩:=h
 simp only [] at h hn
 have k1:qDy tLB:=qAy _ (by decide)
 have k2:qDy tRB:=qAy _ (by decide)
 have k3:qDy qHN:=qAy _ (by decide)
 have k4:qDy qEU:=qAy _ (by decide)
 suffices hs:qFg (qE5 ⟨nm,m,pl,n⟩)/\(qE5 ⟨nm,m,pl,n⟩).length<=5 by
  exact⟨qAH (qDN hn) hs.1,by show _+1<=6;omega⟩
 unfold qE5
 simp only []
 split
 ·exact⟨qAH k1 (qAH k3 (qAH k2 qA7)),by simp⟩
 ·rename_i h3
  split
  ·rename_i h2
   rw [if_neg (by omega),if_neg (by omega),if_pos h2,Bool.and_eq_true] at h
   exact⟨qAH k1 (qAH (qDZ h.2) (qAH k2 qA7)),by simp⟩
  ·split
   ·rename_i h1
    rw [if_neg (by omega),if_pos h1,Bool.and_eq_true] at h
    split
    ·exact⟨qAH k1 (qAH (qDN h.1) (qAH k4 (qAH (qDZ h.2) (qAH k2 qA7)))),by simp⟩
    ·exact⟨qAH k1 (qAH (qDN h.1) (qAH k2 qA7)),by simp⟩
   ·exact⟨qA7,by simp⟩
theorem qIE {α:Type} {f:α->qBT} {b:Nat}:∀ {l:List α},(∀ a∈l,qFg (f a)/\(f a).length<=b)->qFg (l.flatMap f)/\(l.flatMap f).length<=b * l.length
 | [],_=>⟨qA7,by simp⟩
 | a::l,h=>by
  have h1:=h a (List.mem_cons_self ..)
  have h2:=qIE (f:=f) (b:=b) (l:=l) fun x hx=>h x (List.mem_cons_of_mem _ hx)
  rw [List.flatMap_cons]
  refine⟨qBC h1.1 h2.1,?_⟩
  rw [List.length_append,List.length_cons,Nat.mul_succ]
  omega
theorem qFv {α:Type} {f:α->qBT} {b:Nat} {l:List α} (h:∀ a∈l,qFg (f a)/\(f a).length<=b):qFg (qFF f l)/\(qFF f l).length<=(b+1) * l.length:=by
 cases l with
 | nil=>exact⟨qA7,by simp [qFF]⟩
 | cons a l=>
  have h1:=h a (List.mem_cons_self ..)
  have h2:=qIE (f:=fun x=>qAv::f x) (b:=b+1) (l:=l) fun x hx=>⟨qAH (qAy _ (by decide)) (h x (List.mem_cons_of_mem _ hx)).1,by have:=(h x (List.mem_cons_of_mem _ hx)).2;simp only [List.length_cons];omega⟩
  rw [qFF]
  refine⟨qBC h1.1 h2.1,?_⟩
  rw [List.length_append,List.length_cons,Nat.mul_succ]
  omega
theorem qQC (k:Int):qDy (qGZ k):=by
 refine qAy _ ?_
 unfold qGZ
 split
 ·decide
 ·split
  ·decide
  ·split <;> decide
theorem qLE {op n rel val:Int} {r:Rf} {st:List Int} (hb:qAT op n rel val r st=true):qFg (qCF op n rel val r st)/\(qCF op n rel val r st).length<=25:=by
 unfold qAT at hb
 unfold qCF
 by_cases c6:op=6
 ·rw [if_neg (by omega),if_neg (by omega),if_pos c6] at hb
  simp only [Bool.and_eq_true,decide_eq_true_eq] at hb
  obtain⟨⟨⟨⟨⟨⟨b1,b2⟩,b3⟩,b4⟩,b5⟩,b6⟩,b7⟩:=hb
  rw [if_pos c6]
  have hr:=qB3 b1
  refine⟨qBC (qU3 (by decide)) (qBC hr.1 (qAH (qAy _ (by decide)) (qAH (qDZ b4) (qAH (qAy _ (by decide)) (qAH (qQC rel) (qAH (qDZ b3) qA7)))))),?_⟩
  simp only [List.length_append,List.length_cons,List.length_nil];omega
 ·rw [if_neg c6]
  by_cases c5:op=5
  ·rw [if_neg (by omega),if_pos c5] at hb
   simp only [Bool.and_eq_true,decide_eq_true_eq] at hb
   obtain⟨⟨⟨⟨b1,b2⟩,b3⟩,b4⟩,b5⟩:=hb
   rw [if_pos c5]
   have hr:=qB3 b1
   have hset:=qDk b5
   have hl8:st.length<=8:=by
    simp only [qHO,Bool.and_eq_true,decide_eq_true_eq] at b5
    exact b5.1.2
   have hs:=qFv (f:=fun n=>[qAa n]) (b:=1) (l:=st) fun a ha=>⟨qAH (qDZ (hset.2.1 a ha)) qA7,by simp⟩
   refine⟨qBC hr.1 (qBC (qU3 (by decide)) (qBC hs.1 (qU3 (by decide)))),?_⟩
   simp only [List.length_append,List.length_cons,List.length_nil];omega
  ·rw [if_neg c5]
   by_cases c1:op=1∨op=2∨op=3∨op=4
   ·rw [if_pos c1] at hb
    simp only [Bool.and_eq_true,decide_eq_true_eq] at hb
    have hr:=qB3 hb.1.1.1.1
    refine⟨qBC hr.1 (qAH (qQC op) (qAH (qDZ hb.1.1.1.2) qA7)),?_⟩
    simp only [List.length_append,List.length_cons,List.length_nil];omega
   ·rw [if_neg c1,if_neg c5,if_neg c6] at hb
    cases hb
inductive ShN (P:Nat->Cd->Nat->Prop):Nat->Cd->Nat->Prop
 | leaf (op n rel val:Int) (r:Rf) (st:List Int) (l:Nat) (h7:¬ op=7) (h8:¬ op=8) (h9:¬ op=9) (h:qAT op n rel val r st=true):ShN P (l+1) (.mk op n rel val r st []) l
 | neg (a:Cd) (l k:Nat) (h:P l a k):ShN P (l+1) (.mk 7 0 0 0 rf0 [] [a]) k
 | conj (a b:Cd) (l m k:Nat) (ha:P l a m) (hb:P m b k):ShN P (l+1) (.mk 8 0 0 0 rf0 [] [a,b]) k
 | disj (a b:Cd) (l m k:Nat) (ha:P l a m) (hb:P m b k):ShN P (l+1) (.mk 9 0 0 0 rf0 [] [a,b]) k
theorem qIK {d:Nat} {c:Cd} {left k:Nat} (h:qAp (d+1) c left=some k):ShN (fun l a k=>qAp d a l=some k) left c k:=by
 obtain⟨op,n,rel,val,r,st,ar⟩:=c
 rw [qAp] at h
 split at h
 ·cases h
 ·rename_i hl0
  obtain⟨l,rfl⟩:∃ l,left=l+1:=⟨left - 1,by omega⟩
  rw [Nat.add_sub_cancel] at h
  split at h
  ·rename_i hh
   unfold qAb at hh
   split at hh
   ·rename_i h0
    simp only [Bool.and_eq_true,decide_eq_true_eq] at hh
    have:ar=[]:=List.length_eq_zero_iff.1 hh.2
    subst this
    unfold qAc at h0
    injection h with h
    have h:l=k:=h
    subst h
    refine .leaf op n rel val r st l ?_ ?_ ?_ hh.1
    ·rintro rfl;cases h0
    ·rintro rfl;cases h0
    ·rintro rfl;cases h0
   ·rename_i h0
    simp only [Bool.and_eq_true,decide_eq_true_eq] at hh
    obtain⟨hk,hp⟩:=hh
    obtain⟨rfl,rfl,rfl,rfl,rfl⟩:=qIz hp
    have two:∀ {a b:Cd},[a,b].foldlM (fun l c=>qAp d c l) l=some k->∃ m,qAp d a l=some m/\qAp d b m=some k:=fun {a b} h=>by
     rw [List.foldlM_cons] at h
     cases h1:qAp d a l with
     | none=>rw [h1] at h;cases h
     | some m=>
      rw [h1] at h
      have h:[b].foldlM (fun l c=>qAp d c l) m=some k:=h
      rw [List.foldlM_cons] at h
      cases h2:qAp d b m with
      | none=>rw [h2] at h;cases h
      | some m2=>
       rw [h2] at h
       exact⟨m,rfl,by rw [h2];exact h⟩
    unfold qAc at h0 hk
    by_cases c7:op=7
    ·subst c7
     obtain⟨a,rfl⟩:=qYK hk
     rw [List.foldlM_cons] at h
     cases h1:qAp d a l with
     | none=>rw [h1] at h;cases h
     | some m=>
      rw [h1] at h
      exact .neg a l k (by rw [h1];exact h)
    ·rw [if_neg c7] at h0 hk
     by_cases c8:op=8
     ·subst c8
      obtain⟨a,b,rfl⟩:=qXL hk
      obtain⟨m,h1,h2⟩:=two h
      exact .conj a b l m k h1 h2
     ·by_cases c9:op=9
      ·subst c9
       obtain⟨a,b,rfl⟩:=qXL hk
       obtain⟨m,h1,h2⟩:=two h
       exact .disj a b l m k h1 h2
      ·rw [if_neg (by omega)] at h0
       exact absurd rfl h0
  ·cases h
theorem qAx {k:Nat} {c:Cd} (h:qFg (qAj c)):qFg (qAW k c)/\(qAW k c).length<=(qAj c).length+2:=by
 by_cases hl:lvl c.op<k
 ·rw [qAW,inT,if_pos hl]
  exact⟨qAH (qAy _ (by decide)) (qBC h (qU3 (by decide))),by simp⟩
 ·rw [qC9 hl]
  exact⟨h,by omega⟩
theorem qBc:∀ (d:Nat) (c:Cd) (left k:Nat),qAp d c left=some k->qFg (qAj c)/\(qAj c).length+2+28 * k<=28 * left
 | 0,_,_,_,h=>by cases h
 | d+1,c,left,k,h=>by
  cases qIK h with
  | leaf op n rel val r st l h7 h8 h9 hb=>
   rw [qB5 h7 h8 h9]
   have:=qLE hb
   exact⟨this.1,by omega⟩
  | neg a l k ha=>
   have ia:=qBc d a l k ha
   have wa:=qAx (k:=3) ia.1
   rw [qDI]
   exact⟨qAH (qAy _ (by decide)) wa.1,by simp only [List.length_cons];omega⟩
  | conj a b l m k ha hb=>
   have ia:=qBc d a l m ha
   have ib:=qBc d b m k hb
   have wa:=qAx (k:=2) ia.1
   have wb:=qAx (k:=3) ib.1
   rw [qCe]
   exact⟨qBC wa.1 (qAH (qAy _ (by decide)) wb.1),by simp only [List.length_append,List.length_cons];omega⟩
  | disj a b l m k ha hb=>
   have ia:=qBc d a l m ha
   have ib:=qBc d b m k hb
   have wa:=qAx (k:=1) ia.1
   have wb:=qAx (k:=2) ib.1
   rw [qCd]
   exact⟨qBC wa.1 (qAH (qAy _ (by decide)) wb.1),by simp only [List.length_append,List.length_cons];omega⟩
theorem qGA {n:Int} (h:qGL n=true):qFg (qGj n)/\(qGj n).length<=2:=by
 simp only [qGL,Bool.and_eq_true,decide_eq_true_eq] at h
 unfold qGj
 split
 ·exact⟨qAH (qAy _ (by decide)) (qAH (qDZ (by simp only [qBm,Bool.and_eq_true,decide_eq_true_eq];omega)) qA7),by simp⟩
 ·exact⟨qAH (qDZ (by simp only [qBm,Bool.and_eq_true,decide_eq_true_eq];omega)) qA7,by simp⟩
theorem qK3 {l:List Int} (h:qCS l=true):qFg (qB8 l)/\(qB8 l).length<=16:=by
 obtain⟨h1,h2,h3⟩:=qGd h
 have:=qIE (f:=qGj) (b:=2) (l:=l) fun a ha=>qGA (h3 a ha)
 exact⟨this.1,by have h4:=this.2;unfold qB8;omega⟩
theorem qJW:∀ {l:List Cs},qBo l=true->qFg (qBd l)/\(qBd l).length<=858 * l.length
 | [],_=>⟨qA7,by simp [qBd]⟩
 | [c],h=>by
  simp only [qBo,Bool.and_eq_true] at h
  have hn:=qK3 h.1
  rw [qBd]
  exact⟨qAH (qAy _ (by decide)) (qAH (qAy _ (by decide)) hn.1),by simp only [List.length_cons,List.length_nil];omega⟩
 | c::d::r,h=>by
  simp only [qBo,Bool.and_eq_true] at h
  obtain⟨⟨hn,hc⟩,hr⟩:=h
  have hn:=qK3 hn
  obtain⟨k,hk⟩:=Option.isSome_iff_exists.1 hc
  have hc:=qBc 8 c.cond 30 k hk
  have ih:=qJW (l:=d::r) hr
  rw [qBd]
  refine⟨qBC hc.1 (qAH (qAy _ (by decide)) (qBC hn.1 (qAH (qAy _ (by decide)) ih.1))),?_⟩
  have:=ih.2
  simp only [List.length_append,List.length_cons] at this ⊢
  omega
theorem qEb {l:List Cs} (h:qBG l=true):qFg (qA4 l)/\(qA4 l).length<=10300:=by
 simp only [qBG,Bool.and_eq_true,decide_eq_true_eq] at h
 obtain⟨⟨h1,h2⟩,h3⟩:=h
 have:=qJW h3
 refine⟨qAH (qAy _ (by decide)) (qBC this.1 (qU3 (by decide))),?_⟩
 rw [qA4]
 simp only [List.length_append,List.length_cons,List.length_nil]
 have h4:=this.2
 omega
theorem qHo {key:List UInt8} {l:List Rf} (hk:key∈keysL++marksL) (h:∀ r∈l,qBp r=true) (hl:l.length<=8):qFg (qAe key l)/\(qAe key l).length<=60:=by
 unfold qAe
 split
 ·exact⟨qA7,by simp⟩
 ·have:=qFv (f:=qBY) (b:=6) (l:=l) fun a ha=>qB3 (h a ha)
  exact⟨qAH (qAy _ hk) this.1,by have h2:=this.2;simp only [List.length_cons];omega⟩
theorem qDv {d:De} (hv:qBh d=true):qFg (declT d)/\(declT d).length<=10400:=by
 obtain⟨k,n,nm,pl,rs,cs⟩:=d
 simp only [qBh,Bool.and_eq_true,decide_eq_true_eq,List.all_eq_true] at hv
 obtain⟨⟨⟨v1,v2⟩,v3⟩,v4⟩:=hv
 suffices hs:qFg (qMb ⟨k,n,nm,pl,rs,cs⟩)/\(qMb ⟨k,n,nm,pl,rs,cs⟩).length<=10399 by
  exact⟨qBC hs.1 (qU3 (by decide)),by rw [declT,List.length_append];simp only [List.length_cons,List.length_nil];omega⟩
 unfold qAs at v4
 unfold qMb
 simp only [] at v4 ⊢
 have hd:=qDZ v1
 by_cases c1:k=1
 ·rw [if_pos c1]
  exact⟨qAH (qAy _ (by decide)) (qAH hd qA7),by simp⟩
 rw [if_neg c1] at v4 ⊢
 by_cases c2:k=2
 ·rw [if_pos c2] at v4 ⊢
  simp only [Bool.and_eq_true,decide_eq_true_eq] at v4
  exact⟨qAH (qAy _ (by decide)) (qAH (qDN v4.1.1.1) (qAH (qAy _ (by decide)) (qAH hd qA7))),by simp⟩
 rw [if_neg c2] at v4 ⊢
 by_cases c3:k=3
 ·rw [if_pos c3] at v4 ⊢
  simp only [Bool.and_eq_true,Bool.or_eq_true,decide_eq_true_eq] at v4
  obtain⟨⟨v0,v5⟩,v6⟩:=v4
  have hr:=qHo (key:=qAg) (by decide) v3 v2
  have hc:=qEb v6
  have hp:qFg (if pl=[] then [] else [tLB,pl,tRB])/\(if pl=[] then [] else [tLB,pl,tRB]:qBT).length<=3:=by
   split
   ·exact⟨qA7,by simp⟩
   ·rename_i h
    exact⟨qAH (qAy _ (by decide)) (qAH (qDN (v5.resolve_left h)) (qU3 (by decide))),by simp⟩
  refine⟨qBC (qAH (qAy _ (by decide)) (qAH (qDN v0) qA7)) (qBC hp.1 (qBC (qAH (qAy _ (by decide)) (qAH hd qA7)) (qBC hr.1 (qAH (qAy _ (by decide)) hc.1)))),?_⟩
  have h1:=hp.2
  have h2:=hr.2
  have h3:=hc.2
  simp only [List.length_append,List.length_cons,List.length_nil] at h1 ⊢
  omega
 rw [if_neg c3] at v4 ⊢
 by_cases c4:k=4
 ·rw [if_pos c4] at v4 ⊢
  simp only [Bool.and_eq_true,decide_eq_true_eq] at v4
  have hr:=qHo (key:=qBt) (by decide) v3 v2
  refine⟨qBC (qAH (qAy _ (by decide)) (qAH (qDN v4.1.1) (qAH (qAy _ (by decide)) (qAH hd qA7)))) hr.1,?_⟩
  have h2:=hr.2
  simp only [List.length_append,List.length_cons,List.length_nil];omega
 rw [if_neg c4] at v4 ⊢
 by_cases c5:k=5
 ·rw [if_pos c5] at v4 ⊢
  simp only [Bool.and_eq_true,decide_eq_true_eq] at v4
  have hr:=qHo (key:=qAg) (by decide) v3 v2
  have hc:=qEb v4.2
  refine⟨qAH (qAy _ (by decide)) (qBC hr.1 (qAH (qAy _ (by decide)) hc.1)),?_⟩
  have h2:=hr.2
  have h3:=hc.2
  simp only [List.length_append,List.length_cons];omega
 ·rw [if_neg c5]
  exact⟨qA7,by simp⟩
theorem qJk {t:List UInt8} (h:qDy t):1<=t.length/\t.length<=10:=by
 obtain⟨k,h⟩:=h
 exact qDC h
theorem qBj:∀ {x:qBT} (b:Bool),qFg x->(spW b x).length<=11 * x.length
 | [],_,_=>by simp [spW]
 | t::x,b,h=>by
  have h1:=qJk (h t (List.mem_cons_self ..))
  have h2:=qBj (x:=x) true fun u hu=>h u (List.mem_cons_of_mem _ hu)
  have h3:(if b=true then [32] else []:List UInt8).length<=1:=by cases b <;> simp
  rw [spW,List.length_append,List.length_append,List.length_cons]
  omega
theorem qNi {e:List UInt8} {ds:List De} (he:GapOK e) (hv:∀ d∈ds,qBh d=true):∀ x∈qHv e ds,qDy x.1/\GapOK x.2:=by
 intro x hx
 obtain⟨d,hd,hx⟩:=List.mem_flatMap.1 hx
 exact qNl he (qDv (hv d hd)).1 x hx
theorem qEs {ds:List De} (h:qBP ds=true):ds.length<=30/\∀ d∈ds,qBh d=true:=by
 simp only [qBP,Bool.and_eq_true,decide_eq_true_eq,List.all_eq_true] at h
 exact h
theorem qK1 (e:List UInt8) (ds:List De):(qHv e ds).length=qHJ ds:=by
 rw [<- List.length_map (f:=Prod.fst),qIy,qKL]
theorem qOj {e:List UInt8} {ds:List De} (he:GapOK e) (hv:qBP ds=true):(qHJ ds<=1500->∃ ws,qDd (qOa e ds)=.ok ws)/\(1500<qHJ ds->∃ p c,qDd (qOa e ds)=.err p c):=by
 obtain⟨v1,v2⟩:=qEs hv
 refine⟨fun h=>?_,fun h=>?_⟩
 ·have hr:=qOk (g0:=[]) (l:=qHv e ds) (.inl rfl) (qNi he v2) (by rw [qK1];exact h)
  rw [List.nil_append,qGa] at hr
  exact⟨_,hr⟩
 ·have hr:=qOl (g0:=[]) (l:=qHv e ds) (.inl rfl) (qNi he v2) (by rw [qK1];exact h)
  rw [List.nil_append,qGa] at hr
  exact hr
theorem qTZ (k:Int):Pure cx 185 [i64 k] (·=.ret [.str (qGZ k)]):=by
 refine qAB Tryz.func185 rfl rfl rfl ?_
 refine QAD (fun h1=>?_) (fun h1=>?_)
 ·have h1:k=1:=h1
  exact qAF _ rfl rfl (by rw [qGZ,if_pos h1])
 have h1:¬ k=1:=h1
 refine QAD (fun h2=>?_) (fun h2=>?_)
 ·have h2:k=2:=h2
  exact qAF _ rfl rfl (by rw [qGZ,if_neg h1,if_pos h2])
 have h2:¬ k=2:=h2
 refine QAD (fun h3=>?_) (fun h3=>?_)
 ·have h3:k=3:=h3
  exact qAF _ rfl rfl (by rw [qGZ,if_neg h1,if_neg h2,if_pos h3])
 have h3:¬ k=3:=h3
 exact qAF _ rfl rfl (by rw [qGZ,if_neg h1,if_neg h2,if_neg h3])
theorem qQ1 {op n rel val:Int} {r:Rf} {st:List Int} (hb:qAT op n rel val r st=true):qBp r=true/\(op=6->qBm n=true/\qBm val=true)/\(op=5->qHO st=true)/\(¬ op=5->¬ op=6->qBm n=true):=by
 unfold qAT at hb
 by_cases c6:op=6
 ·rw [if_neg (by omega),if_neg (by omega),if_pos c6] at hb
  simp only [Bool.and_eq_true,decide_eq_true_eq] at hb
  obtain⟨⟨⟨⟨⟨⟨b1,b2⟩,b3⟩,b4⟩,b5⟩,b6⟩,b7⟩:=hb
  exact⟨b1,fun _=>⟨b3,b4⟩,fun h=>by omega,fun _ h=>absurd c6 h⟩
 ·by_cases c5:op=5
  ·rw [if_neg (by omega),if_pos c5] at hb
   simp only [Bool.and_eq_true,decide_eq_true_eq] at hb
   obtain⟨⟨⟨⟨b1,b2⟩,b3⟩,b4⟩,b5⟩:=hb
   exact⟨b1,fun h=>absurd h c6,fun _=>b5,fun h=>absurd c5 h⟩
  ·by_cases c1:op=1∨op=2∨op=3∨op=4
   ·rw [if_pos c1] at hb
    simp only [Bool.and_eq_true,decide_eq_true_eq] at hb
    exact⟨hb.1.1.1.1,fun h=>absurd h c6,fun h=>absurd h c5,fun _ _=>hb.1.1.1.2⟩
   ·rw [if_neg c1,if_neg c5,if_neg c6] at hb
    cases hb
abbrev qPw (r:Rf) (l:List Int):qBT:=(qBY r++[tIn,tLC])++qFF (fun n=>[qAa n]) l
theorem qV1 (st:Wst) (op n rel val:Int) (r:Rf) (s:List Int) (hv:qAT op n rel val r s=true) (hb0:st.sz+wt (qCF op n rel val r s)<=100000000):HoldsG cx 158 [.ptr 0 0 0, .p (Cd.mk op n rel val r s []).pv] (wH true st) (WQ (puts st (qCF op n rel val r s))):=by
 obtain⟨f1,f2,f3,f4⟩:=qQ1 hv
 by_cases h6:op=6
 ·subst h6
  obtain⟨g1,g2⟩:=f2 rfl
  have e:qCF 6 n rel val r s=(([]++[qB0,tLP])++qBY r)++[tEq,qAa val,tRP,qGZ rel,qAa n]:=by
   rw [qCF,if_pos rfl];simp
  rw [e] at hb0 ⊢
  have hb:=hb0
  refine qAA Tryz.func158 rfl rfl rfl ?_
  refine And.intro (fun _=>?_) (fun h=>absurd rfl h)
  refine(qA2 true (puts st ([])) ([qB0,tLP]) (by simp) (by have hz:=qAI ([]) st;simp only [qAM,wt] at hb hz ⊢;omega)).holds.useT [] [(2,3)] rfl (sk) (sk) fun e0 H0 hq=>?_
  rw [<- qAE] at hq
  obtain⟨rfl,rfl⟩:=hq
  refine⟨rfl,_,⟨5,((4,bO (puts st ([]++[qB0,tLP])).s)::(0,wO 4 (puts st ([]++[qB0,tLP])))::[(2,cO ((Cd.mk 6 n rel val r s []).cells.map .p))])⟩,rfl,rfl,?_⟩
  refine(qQF (puts st ([]++[qB0,tLP])) r f1 (by have hz:=qAI ([]++[qB0,tLP]) st;simp only [qAM,wt] at hb hz ⊢;omega)).holds.useT [] [(1,4)] rfl (sk) (sk) fun e0 H0 hq=>?_
  unfold WQ at hq
  rw [<- qAE] at hq
  obtain⟨rfl,rfl⟩:=hq
  refine⟨rfl,_,⟨6,((5,bO (puts st (([]++[qB0,tLP])++qBY r)).s)::(0,wO 5 (puts st (([]++[qB0,tLP])++qBY r)))::[(2,cO ((Cd.mk 6 n rel val r s []).cells.map .p))])⟩,rfl,rfl,?_⟩
  refine VDraw.seq rfl ?_
  refine(qCo val g2).eq rfl ?_
  refine⟨sk,?_⟩
  refine(qTZ rel).eq rfl ?_
  refine⟨sk,?_⟩
  refine(qCo n g1).eq rfl ?_
  refine(qA2 true (puts st (([]++[qB0,tLP])++qBY r)) ([tEq,qAa val,tRP,qGZ rel,qAa n]) (by simp) (by have hz:=qAI (([]++[qB0,tLP])++qBY r) st;simp only [qAM,wt] at hb hz ⊢;omega)).holds.useT [] [(1,5),(2,6)] rfl (sk) (sk) fun e0 H0 hq=>?_
  rw [<- qAE] at hq
  obtain⟨rfl,rfl⟩:=hq
  refine⟨rfl,_,⟨8,((7,bO (puts st (([]++[qB0,tLP])++qBY r++[tEq,qAa val,tRP,qGZ rel,qAa n])).s)::(0,wO 7 (puts st (([]++[qB0,tLP])++qBY r++[tEq,qAa val,tRP,qGZ rel,qAa n])))::[(2,cO ((Cd.mk 6 n rel val r s []).cells.map .p))])⟩,rfl,rfl,?_⟩
  exact⟨[],[(2,7)],[], .returned und,_,rfl,sk,sk,rfl,rfl⟩
 by_cases h5:op=5
 ·subst h5
  obtain⟨s1,s2,s3⟩:=qDk (f3 rfl)
  have s8:s.length<=8:=by
   have:=f3 rfl
   simp only [qHO,Bool.and_eq_true,decide_eq_true_eq] at this
   exact this.1.2
  have hm:(s.map i64).length=s.length:=List.length_map ..
  have e:qCF 5 n rel val r s=qPw r s++[tRC]:=by
   rw [qCF,if_neg (by decide),if_pos rfl];simp [qPw]
  rw [e] at hb0 ⊢
  refine qAA Tryz.func158 rfl rfl rfl ?_
  refine And.intro (fun h=>absurd (show(5:Int)=6 from h) (by decide)) (fun _=>?_)
  refine And.intro (fun _=>?_) (fun h=>absurd rfl h)
  have hb:st.sz+wt (([]++qBY r)++[tIn,tLC])<=100000000:=by simp only [qPw,qAM,wt] at hb0 ⊢;omega
  refine(qQF (puts st []) r f1 (by show st.sz+_<=_;simp only [qAM,wt] at hb ⊢;omega)).holds.useT [] [] rfl (sk) (sk) fun e0 H0 hq=>?_
  unfold WQ at hq
  rw [<- qAE] at hq
  obtain⟨rfl,rfl⟩:=hq
  refine⟨rfl,_,⟨4,((3,bO (puts st ([]++qBY r)).s)::(0,wO 3 (puts st ([]++qBY r)))::[(2,cO ((Cd.mk 5 n rel val r s []).cells.map .p))])⟩,rfl,rfl,?_⟩
  refine(qA2 true (puts st ([]++qBY r)) ([tIn,tLC]) (by simp) (by have hz:=qAI ([]++qBY r) st;simp only [qAM,wt] at hb hz ⊢;omega)).holds.useT [] [(1,3),(2,4)] rfl (sk) (sk) fun e0 H0 hq=>?_
  rw [<- qAE] at hq
  obtain⟨rfl,rfl⟩:=hq
  refine⟨rfl,_,⟨6,((5,bO (puts st ([]++qBY r++[tIn,tLC])).s)::(0,wO 5 (puts st ([]++qBY r++[tIn,tLC])))::[(2,cO ((Cd.mk 5 n rel val r s []).cells.map .p))])⟩,rfl,rfl,?_⟩
  refine⟨qBT × Nat,fun x=>[(0, .ptr 0 0 0),(55, .p (ints s)),(56, .p (i64 (s.map i64).length)),(57, .p (i64 x.2))],fun x=>wH' (puts st x.1),fun x=>x.2<=s.length/\x.1=qPw r (s.take x.2),fun x=>s.length - x.2,?_,?_⟩
  ·exact⟨(([]++qBY r)++[tIn,tLC],0),⟨Nat.zero_le _,by simp [qPw,qFF]⟩,qAC [] [(2,5)] [] rfl (sk) (sk) rfl⟩
  clear hb
  rintro⟨P,k⟩ ⟨k1,k2⟩
  simp only [] at k1 k2
  refine QAD (fun m1=>?_) (fun m1=>?_)
  rotate_left
  ·have m1:¬ (k:Int)<((s.map i64).length:Nat):=m1
   rw [hm] at m1
   have e:s.take k=s:=qBa (by omega)
   rw [e] at k2
   rw [<- k2] at hb0
   have hb:=hb0
   refine(qA2 true (puts st (P)) ([tRC]) (by simp) (by have hz:=qAI (P) st;simp only [qAM,wt] at hb hz ⊢;omega)).holds.useT [] [(1,2),(2,3)] rfl (sk) (sk) fun e0 H0 hq=>?_
   rw [<- qAE] at hq
   obtain⟨rfl,rfl⟩:=hq
   refine⟨rfl,_,⟨5,((4,bO (puts st (P++[tRC])).s)::(0,wO 4 (puts st (P++[tRC])))::[])⟩,rfl,rfl,?_⟩
   exact⟨[],[(2,4)],[], .returned und,wH' (puts st (P++[tRC])),rfl,sk,sk,rfl,by rw [k2]⟩
  have m1:(k:Int)<((s.map i64).length:Nat):=m1
  rw [hm] at m1
  have hk:k<s.length:=by omega
  have hn:=s2 _ (qAJ 0 hk)
  have hw:=qTT (f:=fun n=>[qAa n]) s (k+1)
  have hcell:=qEW hk
  have et:qPw r (s.take (k+1))=qPw r (s.take k)++((if k=0 then [] else [qAv])++[qAa (s.getD k 0)]):=by
   rw [qPw,qNN 0 hk];simp [qPw]
  have hb:st.sz+wt (qPw r (s.take (k+1)))<=100000000:=by
   simp only [qPw,qAM,wt] at hb0 hw ⊢;omega
  rw [et] at hb
  rw [<- k2] at et hb
  clear k2
  generalize s.getD k 0=x at hn hcell et hb
  refine⟨_,⟨by omega,i64 x,hcell,rfl⟩,?_⟩
  by_cases c:k=0
  ·rw [if_pos c] at et hb
   refine And.intro (fun h=>absurd (show(0:Int)<(k:Nat) from h) (by omega)) (fun _=>?_)
   refine(qCo x hn).eq rfl ?_
   have hb:st.sz+wt (P++[qAa x])<=100000000:=hb
   refine(qA2 true (puts st (P)) ([qAa x]) (by simp) (by have hz:=qAI (P) st;simp only [qAM,wt] at hb hz ⊢;omega)).holds.useT [] [(1,2),(2,3)] rfl (sk) (sk) fun e0 H0 hq=>?_
   rw [<- qAE] at hq
   obtain⟨rfl,rfl⟩:=hq
   refine⟨rfl,_,⟨5,((4,bO (puts st (P++[qAa x])).s)::(0,wO 4 (puts st (P++[qAa x])))::[])⟩,rfl,rfl,?_⟩
   refine⟨_,w6z,?_⟩
   exact⟨(P++[qAa x],k+1),⟨hk,et.symm⟩,qAC [] [(2,4)] [] rfl (sk) (sk) rfl,by show s.length - (k+1)<s.length - k;omega⟩
  ·rw [if_neg c] at et hb
   rw [<- List.append_assoc] at et hb
   refine And.intro (fun _=>?_) (fun h=>absurd (show(0:Int)<(k:Nat) by omega) h)
   refine(qA2 true (puts st (P)) ([qAv]) (by simp) (by have hz:=qAI (P) st;simp only [qAM,wt] at hb hz ⊢;omega)).holds.useT [] [(1,2),(2,3)] rfl (sk) (sk) fun e0 H0 hq=>?_
   rw [<- qAE] at hq
   obtain⟨rfl,rfl⟩:=hq
   refine⟨rfl,_,⟨5,((4,bO (puts st (P++[qAv])).s)::(0,wO 4 (puts st (P++[qAv])))::[])⟩,rfl,rfl,?_⟩
   refine(qCo x hn).eq rfl ?_
   refine(qA2 true (puts st (P++[qAv])) ([qAa x]) (by simp) (by have hz:=qAI (P++[qAv]) st;simp only [qAM,wt] at hb hz ⊢;omega)).holds.useT [] [(1,4),(2,5)] rfl (sk) (sk) fun e0 H0 hq=>?_
   rw [<- qAE] at hq
   obtain⟨rfl,rfl⟩:=hq
   refine⟨rfl,_,⟨7,((6,bO (puts st (P++[qAv]++[qAa x])).s)::(0,wO 6 (puts st (P++[qAv]++[qAa x])))::[])⟩,rfl,rfl,?_⟩
   refine⟨_,w6z,?_⟩
   exact⟨((P++[qAv])++[qAa x],k+1),⟨hk,et.symm⟩,qAC [] [(2,6)] [] rfl (sk) (sk) rfl,by show s.length - (k+1)<s.length - k;omega⟩
 ·have e:qCF op n rel val r s=([]++qBY r)++[qGZ op,qAa n]:=by
   rw [qCF,if_neg h6,if_neg h5];rfl
  have g1:=f4 h5 h6
  rw [e] at hb0 ⊢
  have hb:=hb0
  refine qAA Tryz.func158 rfl rfl rfl ?_
  refine And.intro (fun h=>absurd h h6) (fun _=>?_)
  refine And.intro (fun h=>absurd h h5) (fun _=>?_)
  refine(qQF (puts st []) r f1 (by show st.sz+_<=_;simp only [qAM,wt] at hb ⊢;omega)).holds.useT [] [] rfl (sk) (sk) fun e0 H0 hq=>?_
  unfold WQ at hq
  rw [<- qAE] at hq
  obtain⟨rfl,rfl⟩:=hq
  refine⟨rfl,_,⟨4,((3,bO (puts st ([]++qBY r)).s)::(0,wO 3 (puts st ([]++qBY r)))::[(2,cO ((Cd.mk op n rel val r s []).cells.map .p))])⟩,rfl,rfl,?_⟩
  refine VDraw.seq rfl ?_
  refine(qTZ op).eq rfl ?_
  refine⟨sk,?_⟩
  refine(qCo n g1).eq rfl ?_
  refine(qA2 true (puts st ([]++qBY r)) ([qGZ op,qAa n]) (by simp) (by have hz:=qAI ([]++qBY r) st;simp only [qAM,wt] at hb hz ⊢;omega)).holds.useT [] [(1,3),(2,4)] rfl (sk) (sk) fun e0 H0 hq=>?_
  rw [<- qAE] at hq
  obtain⟨rfl,rfl⟩:=hq
  refine⟨rfl,_,⟨6,((5,bO (puts st ([]++qBY r++[qGZ op,qAa n])).s)::(0,wO 5 (puts st ([]++qBY r++[qGZ op,qAa n])))::[(2,cO ((Cd.mk op n rel val r s []).cells.map .p))])⟩,rfl,rfl,?_⟩
  exact⟨[],[(2,5)],[], .returned und,_,rfl,sk,sk,rfl,rfl⟩
end Go.Proofs.YtohfoaplnjcihaaGreatDoor
