/- Part 4 of the proof: Ks Kt Ku Kv Kw Kx Ky Ga Ja Jb Jc Jd Je Jf Lo Lp Lq Lr Lv Lw Pa Pb Oa Yzd Yze Va Si Sk Vb Ob Oc Od Oe Of Og Vc Vd -/
import Derived.Shelf.Strings.Builder1
import Derived.Shelf.Strings.Builder2
import Derived.Shelf.Small.Bits
import Derived.Shelf.Strings.BuilderF
import Derived.Shelf.Utf8.RuneCount
import Derived.Shelf.Strconv.Itoa0
import Derived.Shelf.Strconv.Itoa1
import Derived.Shelf.LaysM
import Derived.Shelf.Strconv.Itoa2
import Derived.Shelf.Strconv.Itoa3
import Derived.Shelf.Strings.Search1
import Derived.Shelf.Strings.Search2
import Derived.Shelf.Strings.Search3
import Derived.Shelf.Strings.Count
import Derived.Shelf.Strings.Shaped
import Derived.Shelf.Sort.Plain
import Derived.Shelf.Strings.Prefix
import Derived.Shelf.Strings.Split
import Derived.Shelf.Strings.Replace
import Derived.Shelf.Strings.SplitShaped
import Derived.Shelf.Unicode.Decode
import Derived.Shelf.Strings.RuneCount
import Derived.Shelf.Bits.Mul64
import Derived.Shelf.Strings.Repeat
import Derived.Shelf.Unicode.DecodeSlow
import Derived.Shelf.Unicode.DecodeAny
import Derived.Ground.Names2Prog
import Derived.Shelf.Slices.CompactI
import Derived.Shelf.Slices.SearchI
import Derived.Shelf.Slices.Cells
import Derived.Shelf.Slices.In.SortNone
import Derived.Test.YtohfoaplnjcihaaGreatDoorProg
import Derived.Below
import Derived.Test.YtohfoaplnjcihaaGreatDoorQ3
namespace Go.Proofs.YtohfoaplnjcihaaGreatDoor
open Go Y
set_option maxRecDepth 100000
set_option maxHeartbeats 4000000
def qAx (d:De):Bool:=
 if d.kind=1 then decide (d.name=[]) && decide (d.plate=[]) && decide (d.refs.length=0) && decide (d.cases.length=0)
 else if d.kind=2 then qAp d.name && decide (d.plate=[]) && decide (d.refs.length=0) && decide (d.cases.length=0)
 else if d.kind=3 then qAp d.name && (decide (d.plate=[]) || qAp d.plate) && qBP d.cases
 else if d.kind=4 then qAp d.name && decide (d.plate=[]) && decide (d.cases.length=0)
 else if d.kind=5 then decide (d.n=0) && decide (d.name=[]) && decide (d.plate=[]) && qBP d.cases else false
def qBj (d:De):Bool:=qBh d.n && decide (d.refs.length≤8) && d.refs.all qBk && qAx d
def qBg (ds:List De):Bool:=decide (ds.length≤30) && ds.all qBj
def qTC (ds:List De):Int:=if qBg ds then 0 else 380
structure BigD (d:De):Prop where
 name:qK7 d.name
 plate:qK7 d.plate
 len:d.refs.length≤9223372036854775807
 refs:∀ r∈d.refs,BigR r
 cases:BigL d.cases
structure BigP (ds:List De):Prop where
 len:ds.length≤9223372036854775807
 decl:∀ d∈ds,BigD d
def de0:De:=⟨0,0,[],[],[],[]⟩
theorem qJP {l:List Rf} {k:Nat} (h:k<l.length):(l.map Rf.cells)[k]?=some (l.getD k rf0).cells:=qEP rf0 h
theorem qIv {l:List De} {k:Nat} (h:k<l.length):(l.map De.cells)[k]?=some (l.getD k de0).cells:=qEP de0 h
theorem qKw {α:Type} {l:List α} {f:α→Bool} {k:Nat} (d:α) (h:k<l.length) (hf:f (l.getD k d)=false):l.all f=false:=by
 rw [Bool.eq_false_iff]
 intro ha
 have:=List.all_eq_true.1 ha _ (qAK d h)
 rw [hf] at this;cases this
theorem qJp (d:De) (hb:BigD d):Pure cx 48 [d.pv] (·=.ret [.bool (qBj d)]):=by
 refine qAB Tryz.func48 rfl rfl rfl ?_
 have hN:=qEN d.n
 have hI:=qG6 d.name hb.name
 have hJ:=qG6 d.plate hb.plate
 have hC:=qUa d.cases hb.cases
 have hrl:=hb.len
 have hcl:=hb.cases.len
 have hm:(d.refs.map Rf.cells).length=d.refs.length:=List.length_map ..
 by_cases n1:qBh d.n=true
 rotate_left
 ·rw [Bool.not_eq_true] at n1
  rw [n1] at hN
  refine hN.eq rfl ?_
  exact qAF _ rfl rfl (qAM (by rw [qBj,n1];rfl))
 rw [n1] at hN
 refine hN.eq rfl ?_
 (first | refine qAP (fun h2=>?_) (fun h2=>?_) | refine qAQ (fun h2=>?_) (fun h2=>?_) | refine qAR (fun h2=>?_) (fun h2=>?_))
 ·have h2:(8:Int)<((d.refs.map Rf.cells).length:Nat):=h2
  rw [hm] at h2
  exact qAF _ rfl rfl (qAM (by rw [qBj,decide_eq_false (show ¬ d.refs.length≤8 by omega),Bool.and_false];rfl))
 have h2:¬ (8:Int)<((d.refs.map Rf.cells).length:Nat):=h2
 rw [hm] at h2
 refine⟨Nat,fun k=>[(1, .ptr 0 0 0),(16, .p (qBu d.refs)),(17, .p (i64 d.refs.length)),(18, .p (i64 k))],fun _=>⟨1,[(0,deO d)]⟩,fun k=>k≤d.refs.length∧∀ x∈d.refs.take k,qBk x=true,fun k=>d.refs.length - k,?_,?_⟩
 ·exact⟨0,⟨Nat.zero_le _,by simp⟩,qAC [] [] [] rfl ⟨⟨rfl,rfl⟩,rfl,congrArg (fun n:Nat=>i64 n) hm.symm,rfl,trivial⟩ (sk) rfl⟩
 rintro k ⟨k1,k2⟩
 (first | refine qAP (fun m1=>?_) (fun m1=>?_) | refine qAQ (fun m1=>?_) (fun m1=>?_) | refine qAR (fun m1=>?_) (fun m1=>?_))
 ·have m1:(k:Int)<(d.refs.length:Nat):=m1
  have hk:k<d.refs.length:=by omega
  refine⟨_,⟨by omega,(d.refs.getD k rf0).cells,qJP hk,rfl⟩,?_⟩
  have hR:=qHO (d.refs.getD k rf0) (hb.refs _ (qAK rf0 hk))
  by_cases r1:qBk (d.refs.getD k rf0)=true
  rotate_left
  ·rw [Bool.not_eq_true] at r1
   rw [r1] at hR
   refine hR.eq rfl ?_
   exact qAF _ rfl rfl (qAM (by rw [qBj,qKw rf0 hk r1,Bool.and_false];rfl))
  rw [r1] at hR
  refine hR.eq rfl ?_
  refine⟨_,w6z,?_⟩
  refine⟨k+1,⟨by omega,fun x hx=>?_⟩,qAC [] [] [] rfl (sk) (sk) rfl,by show d.refs.length - (k+1)<d.refs.length - k;omega⟩
  rw [qAW rf0 hk] at hx
  rcases List.mem_append.1 hx with hx | hx
  ·exact k2 x hx
  ·rw [List.mem_singleton.1 hx];exact r1
 have m1:¬ (k:Int)<(d.refs.length:Nat):=m1
 rw [qBY (by omega)] at k2
 have hfin:qBj d=qAx d:=by rw [qBj,n1,decide_eq_true (show d.refs.length≤8 by omega),List.all_eq_true.2 k2];rfl
 clear k1 k2 m1
 (first | refine qAP (fun o1=>?_) (fun o1=>?_) | refine qAQ (fun o1=>?_) (fun o1=>?_) | refine qAR (fun o1=>?_) (fun o1=>?_))
 ·have o1:d.kind=1:=o1
  (first | refine qAP (fun p1=>?_) (fun p1=>?_) | refine qAQ (fun p1=>?_) (fun p1=>?_) | refine qAR (fun p1=>?_) (fun p1=>?_))
  rotate_left
  ·have p1:¬ d.name=[]:=p1
   exact qAF _ rfl rfl (qAM (by rw [hfin];simp [qAx, *]))
  have p1:d.name=[]:=p1
  (first | refine qAP (fun p2=>?_) (fun p2=>?_) | refine qAQ (fun p2=>?_) (fun p2=>?_) | refine qAR (fun p2=>?_) (fun p2=>?_))
  rotate_left
  ·have p2:¬ d.plate=[]:=p2
   exact qAF _ rfl rfl (qAM (by rw [hfin];simp [qAx, *]))
  have p2:d.plate=[]:=p2
  (first | refine qAP (fun p3=>?_) (fun p3=>?_) | refine qAQ (fun p3=>?_) (fun p3=>?_) | refine qAR (fun p3=>?_) (fun p3=>?_))
  rotate_left
  ·have p3:¬ ((d.refs.map Rf.cells).length:Int)=0:=p3
   rw [List.length_map] at p3
   have p3:¬ d.refs=[]:=fun e=>p3 (by rw [e];rfl)
   exact qAF _ rfl rfl (qAM (by rw [hfin];simp [qAx, *]))
  have p3:((d.refs.map Rf.cells).length:Int)=0:=p3
  rw [List.length_map] at p3
  have p3:d.refs=[]:=List.length_eq_zero_iff.1 (by omega)
  (first | refine qAP (fun p4=>?_) (fun p4=>?_) | refine qAQ (fun p4=>?_) (fun p4=>?_) | refine qAR (fun p4=>?_) (fun p4=>?_))
  rotate_left
  ·have p4:¬ ((d.cases.map Cs.cells).length:Int)=0:=p4
   rw [List.length_map] at p4
   have p4:¬ d.cases=[]:=fun e=>p4 (by rw [e];rfl)
   exact qAF _ rfl rfl (qAM (by rw [hfin];simp [qAx, *]))
  have p4:((d.cases.map Cs.cells).length:Int)=0:=p4
  rw [List.length_map] at p4
  have p4:d.cases=[]:=List.length_eq_zero_iff.1 (by omega)
  exact qAF _ rfl rfl (qAM (by rw [hfin];simp [qAx, *]))
 have o1:¬ d.kind=1:=o1
 (first | refine qAP (fun o2=>?_) (fun o2=>?_) | refine qAQ (fun o2=>?_) (fun o2=>?_) | refine qAR (fun o2=>?_) (fun o2=>?_))
 ·have o2:d.kind=2:=o2
  by_cases p1:qAp d.name=true
  rotate_left
  ·rw [Bool.not_eq_true] at p1
   rw [p1] at hI
   refine hI.eq rfl ?_
   exact qAF _ rfl rfl (qAM (by rw [hfin];simp [qAx, *]))
  rw [p1] at hI
  refine hI.eq rfl ?_
  (first | refine qAP (fun p2=>?_) (fun p2=>?_) | refine qAQ (fun p2=>?_) (fun p2=>?_) | refine qAR (fun p2=>?_) (fun p2=>?_))
  rotate_left
  ·have p2:¬ d.plate=[]:=p2
   exact qAF _ rfl rfl (qAM (by rw [hfin];simp [qAx, *]))
  have p2:d.plate=[]:=p2
  (first | refine qAP (fun p3=>?_) (fun p3=>?_) | refine qAQ (fun p3=>?_) (fun p3=>?_) | refine qAR (fun p3=>?_) (fun p3=>?_))
  rotate_left
  ·have p3:¬ ((d.refs.map Rf.cells).length:Int)=0:=p3
   rw [List.length_map] at p3
   have p3:¬ d.refs=[]:=fun e=>p3 (by rw [e];rfl)
   exact qAF _ rfl rfl (qAM (by rw [hfin];simp [qAx, *]))
  have p3:((d.refs.map Rf.cells).length:Int)=0:=p3
  rw [List.length_map] at p3
  have p3:d.refs=[]:=List.length_eq_zero_iff.1 (by omega)
  (first | refine qAP (fun p4=>?_) (fun p4=>?_) | refine qAQ (fun p4=>?_) (fun p4=>?_) | refine qAR (fun p4=>?_) (fun p4=>?_))
  rotate_left
  ·have p4:¬ ((d.cases.map Cs.cells).length:Int)=0:=p4
   rw [List.length_map] at p4
   have p4:¬ d.cases=[]:=fun e=>p4 (by rw [e];rfl)
   exact qAF _ rfl rfl (qAM (by rw [hfin];simp [qAx, *]))
  have p4:((d.cases.map Cs.cells).length:Int)=0:=p4
  rw [List.length_map] at p4
  have p4:d.cases=[]:=List.length_eq_zero_iff.1 (by omega)
  exact qAF _ rfl rfl (qAM (by rw [hfin];simp [qAx, *]))
 have o2:¬ d.kind=2:=o2
 (first | refine qAP (fun o3=>?_) (fun o3=>?_) | refine qAQ (fun o3=>?_) (fun o3=>?_) | refine qAR (fun o3=>?_) (fun o3=>?_))
 ·have o3:d.kind=3:=o3
  by_cases p1:qAp d.name=true
  rotate_left
  ·rw [Bool.not_eq_true] at p1
   rw [p1] at hI
   refine hI.eq rfl ?_
   exact qAF _ rfl rfl (qAM (by rw [hfin];simp [qAx, *]))
  rw [p1] at hI
  refine hI.eq rfl ?_
  (first | refine qAP (fun p2=>?_) (fun p2=>?_) | refine qAQ (fun p2=>?_) (fun p2=>?_) | refine qAR (fun p2=>?_) (fun p2=>?_))
  ·have p2:d.plate=[]:=p2
   refine hC.eq rfl ?_
   exact qAF _ rfl rfl (qAM (by rw [hfin];simp [qAx, *]))
  have p2:¬ d.plate=[]:=p2
  by_cases p3:qAp d.plate=true
  rotate_left
  ·rw [Bool.not_eq_true] at p3
   rw [p3] at hJ
   refine hJ.eq rfl ?_
   exact qAF _ rfl rfl (qAM (by rw [hfin];simp [qAx, *]))
  rw [p3] at hJ
  refine hJ.eq rfl ?_
  refine hC.eq rfl ?_
  exact qAF _ rfl rfl (qAM (by rw [hfin];simp [qAx, *]))
 have o3:¬ d.kind=3:=o3
 (first | refine qAP (fun o4=>?_) (fun o4=>?_) | refine qAQ (fun o4=>?_) (fun o4=>?_) | refine qAR (fun o4=>?_) (fun o4=>?_))
 ·have o4:d.kind=4:=o4
  by_cases p1:qAp d.name=true
  rotate_left
  ·rw [Bool.not_eq_true] at p1
   rw [p1] at hI
   refine hI.eq rfl ?_
   exact qAF _ rfl rfl (qAM (by rw [hfin];simp [qAx, *]))
  rw [p1] at hI
  refine hI.eq rfl ?_
  (first | refine qAP (fun p2=>?_) (fun p2=>?_) | refine qAQ (fun p2=>?_) (fun p2=>?_) | refine qAR (fun p2=>?_) (fun p2=>?_))
  rotate_left
  ·have p2:¬ d.plate=[]:=p2
   exact qAF _ rfl rfl (qAM (by rw [hfin];simp [qAx, *]))
  have p2:d.plate=[]:=p2
  (first | refine qAP (fun p4=>?_) (fun p4=>?_) | refine qAQ (fun p4=>?_) (fun p4=>?_) | refine qAR (fun p4=>?_) (fun p4=>?_))
  rotate_left
  ·have p4:¬ ((d.cases.map Cs.cells).length:Int)=0:=p4
   rw [List.length_map] at p4
   have p4:¬ d.cases=[]:=fun e=>p4 (by rw [e];rfl)
   exact qAF _ rfl rfl (qAM (by rw [hfin];simp [qAx, *]))
  have p4:((d.cases.map Cs.cells).length:Int)=0:=p4
  rw [List.length_map] at p4
  have p4:d.cases=[]:=List.length_eq_zero_iff.1 (by omega)
  exact qAF _ rfl rfl (qAM (by rw [hfin];simp [qAx, *]))
 have o4:¬ d.kind=4:=o4
 (first | refine qAP (fun o5=>?_) (fun o5=>?_) | refine qAQ (fun o5=>?_) (fun o5=>?_) | refine qAR (fun o5=>?_) (fun o5=>?_))
 ·have o5:d.kind=5:=o5
  (first | refine qAP (fun p1=>?_) (fun p1=>?_) | refine qAQ (fun p1=>?_) (fun p1=>?_) | refine qAR (fun p1=>?_) (fun p1=>?_))
  rotate_left
  ·have p1:¬ d.n=0:=p1
   exact qAF _ rfl rfl (qAM (by rw [hfin];simp [qAx, *]))
  have p1:d.n=0:=p1
  (first | refine qAP (fun p2=>?_) (fun p2=>?_) | refine qAQ (fun p2=>?_) (fun p2=>?_) | refine qAR (fun p2=>?_) (fun p2=>?_))
  rotate_left
  ·have p2:¬ d.name=[]:=p2
   exact qAF _ rfl rfl (qAM (by rw [hfin];simp [qAx, *]))
  have p2:d.name=[]:=p2
  (first | refine qAP (fun p3=>?_) (fun p3=>?_) | refine qAQ (fun p3=>?_) (fun p3=>?_) | refine qAR (fun p3=>?_) (fun p3=>?_))
  rotate_left
  ·have p3:¬ d.plate=[]:=p3
   exact qAF _ rfl rfl (qAM (by rw [hfin];simp [qAx, *]))
  have p3:d.plate=[]:=p3
  refine hC.eq rfl ?_
  exact qAF _ rfl rfl (qAM (by rw [hfin];simp [qAx, *]))
 have o5:¬ d.kind=5:=o5
 exact qAF _ rfl rfl (qAM (by rw [hfin];simp [qAx, *]))
theorem qM1 (ds:List De) (hb:BigP ds):Pure cx 15 [qEo ds] (·=.ret [i64 (qTC ds)]):=by
 refine qAB Tryz.func15 rfl rfl rfl ?_
 have hl:=hb.len
 have hm:(ds.map De.cells).length=ds.length:=List.length_map ..
 have bad:qBg ds=false→qTC ds=380:=fun h=>by rw [qTC,h];rfl
 (first | refine qAP (fun h2=>?_) (fun h2=>?_) | refine qAQ (fun h2=>?_) (fun h2=>?_) | refine qAR (fun h2=>?_) (fun h2=>?_))
 ·have h2:(30:Int)<((ds.map De.cells).length:Nat):=h2
  rw [hm] at h2
  exact qAF _ rfl rfl (qEB (bad (by rw [qBg,decide_eq_false (show ¬ ds.length≤30 by omega)];rfl)).symm)
 have h2:¬ (30:Int)<((ds.map De.cells).length:Nat):=h2
 rw [hm] at h2
 refine⟨Nat,fun k=>[(10, .p (des ds)),(11, .p (i64 ds.length)),(12, .p (i64 k))],fun _=>⟨0,[]⟩,fun k=>k≤ds.length∧∀ x∈ds.take k,qBj x=true,fun k=>ds.length - k,?_,?_⟩
 ·exact⟨0,⟨Nat.zero_le _,by simp⟩,qAC [] [] [] rfl ⟨rfl,congrArg (fun n:Nat=>i64 n) hm.symm,rfl,trivial⟩ trivial rfl⟩
 rintro k ⟨k1,k2⟩
 (first | refine qAP (fun m1=>?_) (fun m1=>?_) | refine qAQ (fun m1=>?_) (fun m1=>?_) | refine qAR (fun m1=>?_) (fun m1=>?_))
 ·have m1:(k:Int)<(ds.length:Nat):=m1
  have hk:k<ds.length:=by omega
  refine⟨_,⟨by omega,(ds.getD k de0).cells,qIv hk,rfl⟩,?_⟩
  have hR:=qJp (ds.getD k de0) (hb.decl _ (qAK de0 hk))
  by_cases r1:qBj (ds.getD k de0)=true
  rotate_left
  ·rw [Bool.not_eq_true] at r1
   rw [r1] at hR
   refine hR.eq rfl ?_
   exact qAF _ rfl rfl (qEB (bad (by rw [qBg,qKw de0 hk r1,Bool.and_false])).symm)
  rw [r1] at hR
  refine hR.eq rfl ?_
  refine⟨_,w6z,?_⟩
  refine⟨k+1,⟨by omega,fun x hx=>?_⟩,qAC [] [] [] rfl (sk) trivial rfl,by show ds.length - (k+1)<ds.length - k;omega⟩
  rw [qAW de0 hk] at hx
  rcases List.mem_append.1 hx with hx | hx
  ·exact k2 x hx
  ·rw [List.mem_singleton.1 hx];exact r1
 have m1:¬ (k:Int)<(ds.length:Nat):=m1
 rw [qBY (by omega)] at k2
 exact qAF _ rfl rfl (qEB (by rw [qTC,qBg,decide_eq_true (show ds.length≤30 by omega),List.all_eq_true.2 k2];rfl))
theorem qIR (s:List UInt8):∀ (f k:Nat) (acc ws:List Wd),GoodW acc→qDT f s k acc=.ok ws→GoodW ws
 | 0,k,acc,ws,h,e=>by
  rw [qDT] at e
  injection e with e
  subst e;exact h
 | f+1,k,acc,ws,h,e=>by
  rw [qDT] at e
  split at e
  ·cases e
  ·rename_i n _
   rw [qGr] at e
   split at e
   ·injection e with e
    subst e;exact h
   ·split at e
    ·cases e
    ·rename_i hr
     split at e
     ·cases e
     ·rename_i hn
      refine qIR s f _ _ ws ⟨fun w hw=>?_,?_⟩ e
      ·rcases List.mem_append.1 hw with hw | hw
       ·exact h.right w hw
       ·rw [List.mem_singleton.1 hw];exact hr
      ·have:=h.len
       rw [qAJ];omega
theorem qHQ {s:List UInt8} {ws:List Wd} (h:qEJ s=.ok ws):GoodW ws:=
 qIR s _ _ [] ws ⟨fun w hw=>by simp at hw,by simp⟩ h
theorem qDq {ws:List Wd} (hg:GoodW ws) {q q':Nat} {t:List UInt8} (h:qCg ws q=.inr (t,q')):qK7 t:=by
 rw [qCg] at h
 split at h
 ·rename_i hk
  injection h with h;injection h with h1 h2
  have:=hg.at (qFk (ws:=ws) (q:=q) (by rw [hk];decide))
  rw [hk] at this
  have:qAp (txt ws q)=true:=this
  simp only [qAp,Bool.and_eq_true,decide_eq_true_eq] at this
  rw [qK7,← h1]
  have:=this.1.1.1.2
  omega
 ·cases h
theorem qBN:qK7 []:=by rw [qK7];simp
theorem qGy {ws:List Wd} {nm pl:List UInt8} {m n:Int} {q q':Nat} {r:Rf} (h1:qK7 nm) (h2:qK7 pl) (h:qCT ws nm m pl n q=.inr (r,q')):BigR r:=by
 obtain⟨u,p,_,h⟩:=then_ok h
 injection h with h;injection h with h3 h4
 rw [← h3];exact⟨h1,h2⟩
theorem qPW {ws:List Wd} (hg:GoodW ws) {q q':Nat} {r:Rf} (h:qIQ ws q=.inr (r,q')):BigR r:=by
 rw [qIQ] at h
 obtain⟨nm,q1,h1,h⟩:=then_ok h
 have b1:=qDq hg h1
 try simp only [] at h
 split at h
 ·split at h
  ·exact qGy b1 qBN h
  ·split at h
   ·obtain⟨n,q2,h2,h⟩:=then_ok h
    exact qGy b1 qBN h
   ·obtain⟨pl,q2,h2,h⟩:=then_ok h
    have b2:=qDq hg h2
    try simp only [] at h
    split at h
    ·obtain⟨n,q3,h3,h⟩:=then_ok h
     exact qGy b1 b2 h
    ·exact qGy b1 b2 h
 ·injection h with h;injection h with h3 h4
  rw [← h3];exact⟨b1,qBN⟩
theorem qNA {α:Type} {ws:List Wd} {rd:Nat→Rd α} {P:α→Prop} (hrd:∀ q a q',rd q=.inr (a,q')→P a):∀ (f:Nat) {acc l:List α} {q q':Nat},(∀ a∈acc,P a)→qDU ws rd f acc q=.inr (l,q')→(∀ a∈l,P a)∧l.length≤acc.length+f
 | 0,_,_,_,_,_,h=>by cases h
 | f+1,acc,l,q,q',ha,h=>by
  rw [qDU] at h
  split at h
  ·obtain⟨a,q1,h1,h⟩:=then_ok h
   have h2:=qNA hrd f (acc:=acc++[a]) (fun b hb=>by
    rcases List.mem_append.1 hb with hb | hb
    ·exact ha b hb
    ·rw [List.mem_singleton.1 hb];exact hrd _ _ _ h1) h
   rw [qAJ] at h2
   exact⟨h2.1,by omega⟩
  ·injection h with h;injection h with h1 h2
   rw [← h1];exact⟨ha,by omega⟩
theorem qNC {α:Type} {ws:List Wd} {rd:Nat→Rd α} {P:α→Prop} (hrd:∀ q a q',rd q=.inr (a,q')→P a) {F q q':Nat} {l:List α} (h:qFB ws rd F q=.inr (l,q')):(∀ a∈l,P a)∧l.length≤F+1:=by
 rw [qFB] at h
 obtain⟨a,q1,h1,h⟩:=then_ok h
 have:=qNA hrd F (acc:=[a]) (fun b hb=>by rw [List.mem_singleton.1 hb];exact hrd _ _ _ h1) h
 simp only [List.length_singleton] at this
 exact⟨this.1,by omega⟩
theorem qJN {ws:List Wd} (hg:GoodW ws) {F:Nat} {key:List UInt8} {q q':Nat} {l:List Rf} (h:qEp ws F key q=.inr (l,q')):(∀ r∈l,BigR r)∧l.length≤F+1:=by
 rw [qEp] at h
 split at h
 ·exact qNC (fun q a q' h=>qPW hg h) h
 ·injection h with h;injection h with h1 h2
  rw [← h1];exact⟨fun r hr=>by simp at hr,by simp⟩
theorem qNK {ws:List Wd}:∀ (f:Nat) {acc l:List Int} {q q':Nat},qDt ws f acc q=.inr (l,q')→l.length≤acc.length+f
 | 0,_,_,_,_,h=>by cases h
 | f+1,acc,l,q,q',h=>by
  rw [qDt] at h
  split at h
  ·obtain⟨a,q1,h1,h⟩:=then_ok h
   have:=qNK f h
   rw [qAJ] at this;omega
  ·injection h with h;injection h with h1 h2
   rw [← h1];omega
theorem qM3 {ws:List Wd} {F q q':Nat} {l:List Int} (h:qDp ws F q=.inr (l,q')):l.length≤F+1:=by
 rw [qDp] at h
 obtain⟨a,q1,h1,h⟩:=then_ok h
 have:=qNK F h
 simp only [List.length_singleton] at this;omega
theorem qQN (l:List Int) (n:Int):(qHk l n).length≤l.length+1:=by
 induction l with
 | nil=>simp [qHk]
 | cons x l ih=>
  rw [qHk]
  split
  ·simp
  ·split
   ·simp
   ·simp only [List.length_cons];omega
theorem qPA:∀ (l acc:List Int),(l.foldl qHk acc).length≤acc.length+l.length
 | [],acc=>by simp
 | x::l,acc=>by
  have:=qPA l (qHk acc x)
  have:=qQN acc x
  simp only [List.foldl_cons,List.length_cons];omega
structure CBig (ws:List Wd) (F:Nat):Prop where
 cond:∀ {q c q'},qC6 ws F q=.inr (c,q')→qDk c
 orr:∀ {d q c q'},qDk d→orR ws F d q=.inr (c,q')→qDk c
 conj:∀ {q c q'},qCo ws F q=.inr (c,q')→qDk c
 andr:∀ {d q c q'},qDk d→qK8 ws F d q=.inr (c,q')→qDk c
 neg:∀ {q c q'},qG5 ws F q=.inr (c,q')→qDk c
 test:∀ {q c q'},qD9 ws F q=.inr (c,q')→qDk c
theorem qGV {op:Int} {a b:Cd} (ha:qDk a) (hb:qDk b):qDk (.mk op 0 0 0 rf0 [] [a,b]):=by
 simp only [qDk,qMM]
 exact⟨⟨qBN,qBN⟩,by simp,by simp,ha,hb,trivial⟩
theorem qL8 {op:Int} {a:Cd} (ha:qDk a):qDk (.mk op 0 0 0 rf0 [] [a]):=by
 simp only [qDk,qMM]
 exact⟨⟨qBN,qBN⟩,by simp,by simp,ha,trivial⟩
theorem qCp {o n r v:Int} {rf:Rf} {st:List Int} (hr:BigR rf) (hs:st.length≤9223372036854775807):qDk (.mk o n r v rf st []):=by
 simp only [qDk,qMM]
 exact⟨hr,hs,by simp,trivial⟩
theorem qWA (ws:List Wd) (hg:GoodW ws):∀ F,F≤100000→CBig ws F
 | 0,_=>by
  constructor
  ·intro q c q' h;rw [qC6] at h;cases h
  ·intro d q c q' _ h;rw [orR] at h;cases h
  ·intro q c q' h;rw [qCo] at h;cases h
  ·intro d q c q' _ h;rw [qK8] at h;cases h
  ·intro q c q' h;rw [qG5] at h;cases h
  ·intro q c q' h;rw [qD9] at h;cases h
 | F+1,hF=>by
  have ih:=qWA ws hg F (by omega)
  constructor
  ·intro q c q' h
   rw [qC6] at h
   obtain⟨a,p,h1,h⟩:=then_ok h
   exact ih.orr (ih.conj h1) h
  ·intro d q c q' hd h
   rw [orR] at h
   split at h
   ·obtain⟨a,p,h1,h⟩:=then_ok h
    exact ih.orr (qGV hd (ih.conj h1)) h
   ·injection h with h;injection h with h1 h2
    rw [← h1];exact hd
  ·intro q c q' h
   rw [qCo] at h
   obtain⟨a,p,h1,h⟩:=then_ok h
   exact ih.andr (ih.neg h1) h
  ·intro d q c q' hd h
   rw [qK8] at h
   split at h
   ·obtain⟨a,p,h1,h⟩:=then_ok h
    exact ih.andr (qGV hd (ih.neg h1)) h
   ·injection h with h;injection h with h1 h2
    rw [← h1];exact hd
  ·intro q c q' h
   rw [qG5] at h
   split at h
   ·obtain⟨a,p,h1,h⟩:=then_ok h
    injection h with h;injection h with h2 h3
    rw [← h2];exact qL8 (ih.neg h1)
   ·exact ih.test h
  ·intro q c q' h
   rw [qD9] at h
   split at h
   ·obtain⟨a,p,h1,h⟩:=then_ok h
    obtain⟨u,p2,h2,h⟩:=then_ok h
    injection h with h;injection h with h3 h4
    rw [← h3];exact ih.cond h1
   ·split at h
    ·obtain⟨u,p1,h1,h⟩:=then_ok h
     obtain⟨nm,p2,h2,h⟩:=then_ok h
     obtain⟨u3,p3,h3,h⟩:=then_ok h
     obtain⟨v,p4,h4,h⟩:=then_ok h
     obtain⟨u5,p5,h5,h⟩:=then_ok h
     obtain⟨r,p6,h6,h⟩:=then_ok h
     obtain⟨n,p7,h7,h⟩:=then_ok h
     injection h with h;injection h with h8 h9
     rw [← h8];exact qCp ⟨qDq hg h2,qBN⟩ (by simp)
    ·obtain⟨r,p1,h1,h⟩:=then_ok h
     have hr:=qPW hg h1
     try simp only [] at h
     split at h
     ·obtain⟨u,p2,h2,h⟩:=then_ok h
      obtain⟨l,p3,h3,h⟩:=then_ok h
      obtain⟨u4,p4,h4,h⟩:=then_ok h
      have hl:=(qNC (P:=fun _=>True) (fun _ _ _ _=>trivial) h3).2
      have hs:=qPA l []
      injection h with h;injection h with h8 h9
      rw [← h8];exact qCp hr (by rw [qOg];simp only [List.length_nil] at hs;omega)
     ·obtain⟨o,p2,h2,h⟩:=then_ok h
      obtain⟨n,p3,h3,h⟩:=then_ok h
      injection h with h;injection h with h8 h9
      rw [← h8];exact qCp hr (by simp)
structure BigK (F:Nat) (c:Cs):Prop where
 cond:qDk c.cond
 nums:c.nums.length≤F+1
theorem qKn {ws:List Wd} (hg:GoodW ws) {F:Nat} (hF:F≤100000):∀ (f:Nat) {acc l:List Cs} {q q':Nat},(∀ c∈acc,BigK F c)→qDL ws F f acc q=.inr (l,q')→(∀ c∈l,BigK F c)∧l.length≤acc.length+f
 | 0,_,_,_,_,_,h=>by cases h
 | f+1,acc,l,q,q',ha,h=>by
  rw [qDL] at h
  split at h
  ·rw [qGA] at h
   obtain⟨u,q1,h1,h⟩:=then_ok h
   obtain⟨l1,q2,h2,h⟩:=then_ok h
   obtain⟨u3,q3,h3,h⟩:=then_ok h
   injection h with h;injection h with h8 h9
   rw [← h8]
   refine⟨fun c hc=>?_,by rw [qAJ];omega⟩
   rcases List.mem_append.1 hc with hc | hc
   ·exact ha c hc
   ·rw [List.mem_singleton.1 hc]
    exact⟨qCp ⟨qBN,qBN⟩ (by simp),qM3 h2⟩
  ·obtain⟨c,q1,h1,h⟩:=then_ok h
   obtain⟨u2,q2,h2,h⟩:=then_ok h
   obtain⟨l3,q3,h3,h⟩:=then_ok h
   obtain⟨u4,q4,h4,h⟩:=then_ok h
   have:=qKn hg hF f (acc:=acc++[⟨c,l3⟩]) (fun x hx=>by
    rcases List.mem_append.1 hx with hx | hx
    ·exact ha x hx
    ·rw [List.mem_singleton.1 hx]
     exact⟨(qWA ws hg F hF).cond h1,qM3 h3⟩) h
   rw [qAJ] at this
   exact⟨this.1,by omega⟩
theorem qMi {ws:List Wd} (hg:GoodW ws) {F:Nat} (hF:F≤100000) {q q':Nat} {l:List Cs} (h:qF9 ws F q=.inr (l,q')):BigL l:=by
 rw [qF9] at h
 obtain⟨u,q1,h1,h⟩:=then_ok h
 obtain⟨h2,h3⟩:=qKn hg hF F (acc:=[]) (fun c hc=>by simp at hc) h
 simp only [List.length_nil] at h3
 exact⟨by omega,fun c hc=>(h2 c hc).cond,fun c hc=>by have:=(h2 c hc).nums;omega⟩
theorem qGI:BigL []:=⟨by simp,fun c hc=>by simp at hc,fun c hc=>by simp at hc⟩
theorem qKO {ws:List Wd} (hg:GoodW ws) {F:Nat} (hF:F≤100000) {q q':Nat} {nm pl:List UInt8} {d:De} (b1:qK7 nm) (b2:qK7 pl) (h:qB9 ws F nm pl q=.inr (d,q')):BigD d:=by
 rw [qB9] at h
 obtain⟨u1,q1,h1,h⟩:=then_ok h
 obtain⟨n,q2,h2,h⟩:=then_ok h
 obtain⟨l,q3,h3,h⟩:=then_ok h
 obtain⟨u4,q4,h4,h⟩:=then_ok h
 obtain⟨cs,q5,h5,h⟩:=then_ok h
 have hr:=qJN hg h3
 injection h with h;injection h with h8 h9
 rw [← h8]
 exact⟨b1,b2,by have:=hr.2;simp only [];omega,hr.1,qMi hg hF h5⟩
theorem qSJ {ws:List Wd} (hg:GoodW ws) {F:Nat} (hF:F≤100000) {q q':Nat} {d:De} (h:qCJ ws F q=.inr (d,q')):BigD d:=by
 rw [qCJ] at h
 split at h
 ·rw [qFn] at h
  obtain⟨n,q1,h1,h⟩:=then_ok h
  injection h with h;injection h with h8 h9
  rw [← h8]
  exact⟨qBN,qBN,by simp,fun r hr=>by simp at hr,qGI⟩
 split at h
 ·rw [qFe] at h
  obtain⟨nm,q1,h1,h⟩:=then_ok h
  obtain⟨u,q2,h2,h⟩:=then_ok h
  obtain⟨n,q3,h3,h⟩:=then_ok h
  injection h with h;injection h with h8 h9
  rw [← h8]
  exact⟨qDq hg h1,qBN,by simp,fun r hr=>by simp at hr,qGI⟩
 split at h
 ·rw [qJZ] at h
  obtain⟨nm,q1,h1,h⟩:=then_ok h
  have b1:=qDq hg h1
  try simp only [] at h
  split at h
  ·obtain⟨pl,q2,h2,h⟩:=then_ok h
   obtain⟨u,q3,h3,h⟩:=then_ok h
   exact qKO hg hF b1 (qDq hg h2) h
  ·exact qKO hg hF b1 qBN h
 split at h
 ·rw [qDx] at h
  obtain⟨nm,q1,h1,h⟩:=then_ok h
  obtain⟨u,q2,h2,h⟩:=then_ok h
  obtain⟨n,q3,h3,h⟩:=then_ok h
  obtain⟨l,q4,h4,h⟩:=then_ok h
  have hr:=qJN hg h4
  injection h with h;injection h with h8 h9
  rw [← h8]
  exact⟨qDq hg h1,qBN,by have:=hr.2;simp only [];omega,hr.1,qGI⟩
 split at h
 ·rw [qJf] at h
  obtain⟨l,q1,h1,h⟩:=then_ok h
  obtain⟨u,q2,h2,h⟩:=then_ok h
  obtain⟨cs,q3,h3,h⟩:=then_ok h
  have hr:=qJN hg h1
  injection h with h;injection h with h8 h9
  rw [← h8]
  exact⟨qBN,qBN,by have:=hr.2;simp only [];omega,hr.1,qMi hg hF h3⟩
 ·cases h
theorem qMy {ws:List Wd} (hg:GoodW ws) {F:Nat} (hF:F≤100000):∀ (f:Nat) {acc l:List De} {q q':Nat},(∀ d∈acc,BigD d)→qC8 ws F f acc q=.inr (l,q')→(∀ d∈l,BigD d)∧l.length≤acc.length+f
 | 0,_,_,_,_,_,h=>by cases h
 | f+1,acc,l,q,q',ha,h=>by
  rw [qC8] at h
  split at h
  ·obtain⟨d,q1,h1,h⟩:=then_ok h
   obtain⟨u,q2,h2,h⟩:=then_ok h
   have:=qMy hg hF f (acc:=acc++[d]) (fun x hx=>by
    rcases List.mem_append.1 hx with hx | hx
    ·exact ha x hx
    ·rw [List.mem_singleton.1 hx];exact qSJ hg hF h1) h
   rw [qAJ] at this
   exact⟨this.1,by omega⟩
  ·injection h with h;injection h with h8 h9
   rw [← h8];exact⟨ha,by omega⟩
theorem qHT {ws:List Wd} (hg:GoodW ws) {F:Nat} (hF:F≤100000) {l:List De} {q':Nat} (h:qC8 ws F F [] 0=.inr (l,q')):BigP l:=by
 have:=qMy hg hF F (acc:=[]) (fun d hd=>by simp at hd) h
 simp only [List.length_nil] at this
 exact⟨by omega,this.1⟩
def qHn (ws:List Wd):Nat:=4 * ws.length+8
def qD4 (s:List UInt8):Sum ((Int × Int) × Int) (List De):=
 if 8000<s.length then .inl ((0,0),3) else match qEJ s with
 | .err p c=>.inl ((p.1,p.2),c)
 | .ok ws=>match qC8 ws (qHn ws) (qHn ws) [] 0 with
  | .inl q=>.inl (((wat ws q).line,(wat ws q).col),381)
  | .inr (ds,_)=>if qBg ds=true then .inr ds else .inl ((0,0),3)
def qXO:Sum ((Int × Int) × Int) (List De)→List PV
 | .inl (p,e)=>[qEo [],i64 p.1,i64 p.2,i64 e]
 | .inr ds=>[qEo ds,i64 0,i64 0,i64 0]
def iO1 (n:Int):AObj:=⟨qUg,false, .bx [.p (i64 n)]⟩
def eO1 (n:Int):AObj:=⟨45,false, .bx [.p (i64 n)]⟩
theorem qEb (s:List UInt8):∀ (f k:Nat) (acc:List Wd) (p:Nat × Nat) (c:Int),qDT f s k acc=.err p c→c=370∨c=3
 | 0,k,acc,p,c,e=>by
  rw [qDT] at e
  cases e
 | f+1,k,acc,p,c,e=>by
  rw [qDT] at e
  split at e
  ·injection e with _ e;exact .inl e.symm
  ·rw [qGr] at e
   split at e
   ·cases e
   ·split at e
    ·injection e with _ e;exact .inl e.symm
    ·split at e
     ·injection e with _ e;exact .inr e.symm
     ·exact qEb s f _ _ p c e
abbrev qXM (N:Nat):Hp:=⟨N,[(3,eO1 0),(2,iO1 0),(1,iO1 0),(0,srO (.p .nils))]⟩
theorem qLV (s:List UInt8):Pure cx 22 [.str s] (·=.ret (qXO (qD4 s))):=by
 have hRd:=qVO s
 refine qAB Tryz.func22 rfl rfl rfl ?_
 by_cases h0:8000<s.length
 ·rw [qCO,if_pos h0] at hRd
  refine hRd.eq rfl ?_
  have e:qD4 s=.inl ((0,0),3):=by rw [qD4,if_pos h0]
  refine And.intro (fun h=>absurd (show(3:Int)=0 from h) (by decide)) (fun _=>?_)
  refine VDraw.seq rfl ?_
  refine⟨sk,?_⟩
  refine⟨sk,?_⟩
  refine⟨sk,?_⟩
  exact qJl (qEo []) (i64 0) (i64 0) (i64 3) rfl ⟨_,rfl,_,_,rfl, .inr (.inr ⟨6,rfl⟩),rfl⟩ rfl rfl rfl (by rw [e];rfl)
 cases hr:qEJ s with
 | err p c=>
  rw [qCO,if_neg h0,hr] at hRd
  refine hRd.eq rfl ?_
  have e:qD4 s=.inl ((p.1,p.2),c):=by rw [qD4,if_neg h0,hr]
  have hc:¬ c=0:=by
   have:=qEb s _ _ _ _ _ hr
   omega
  refine And.intro (fun h=>absurd (show c=0 from h) hc) (fun _=>?_)
  refine VDraw.seq rfl ?_
  refine⟨sk,?_⟩
  refine⟨sk,?_⟩
  refine⟨sk,?_⟩
  exact qJl (qEo []) (i64 p.1) (i64 p.2) (i64 c) rfl ⟨_,rfl,_,_,rfl, .inr (.inr ⟨6,rfl⟩),rfl⟩ rfl rfl rfl (by rw [e];rfl)
 | ok ws=>
  have hg:=qHQ hr
  have hl:=hg.len
  rw [qCO,if_neg h0,hr] at hRd
  refine hRd.eq rfl ?_
  refine And.intro (fun _=>?_) (fun h=>absurd rfl h)
  obtain⟨F,hF⟩:∃ F,F=qHn ws:=⟨_,rfl⟩
  have hF8:4 * ws.length+8≤F:=by rw [hF];exact Nat.le_refl _
  have hFb:F≤100000:=by rw [hF,qHn];omega
  have e:qD4 s=match qC8 ws F F [] 0 with
    | .inl q=>.inl (((wat ws q).line,(wat ws q).col),381)
    | .inr (ds,_)=>if qBg ds=true then .inr ds else .inl ((0,0),3):=by rw [qD4,if_neg h0,hr,hF]
  clear hF
  refine(qPh ws F 0 hF8 hg (Nat.zero_le _)).holds.useT [] [(0,4)] rfl (sk) (sk) fun e0 H0 hq=>?_
  rcases hp:qC8 ws F F [] 0 with q | ⟨ds,q⟩
  ·rw [hp] at hq e
   obtain⟨rfl,rfl⟩:=hq
   refine⟨rfl,_,qXM 5,rfl,rfl,?_⟩
   refine qDe Tryz.func54 rfl rfl rfl ?_
   refine VDraw.seq rfl ?_
   refine⟨sk,?_⟩
   refine⟨sk,?_⟩
   refine⟨[],[],[], .returned und,⟨5,[(3,eO1 381),(2,iO1 (wat ws q).col),(1,iO1 (wat ws q).line),(0,srO (.p .nils))]⟩,rfl,sk,sk,?_⟩
   exact qJl (qEo []) (i64 (wat ws q).line) (i64 (wat ws q).col) (i64 381) rfl ⟨_,rfl,_,_,rfl, .inr (.inr ⟨6,rfl⟩),rfl⟩ rfl rfl rfl (by rw [e];rfl)
  ·rw [hp] at hq e
   obtain⟨hql,rfl,rfl⟩:=hq
   refine⟨rfl,_,⟨5,(4,psO ws q)::(qXM 5).l⟩,rfl,rfl,?_⟩
   have hC:=qM1 ds (qHT hg hFb hp)
   by_cases hv:qBg ds=true
   ·rw [qTC,if_pos hv] at hC
    refine hC.eq rfl ?_
    refine And.intro (fun _=>?_) (fun h=>absurd rfl h)
    have e:qD4 s=.inr ds:=e.trans (if_pos hv)
    refine qDe Tryz.func54 rfl rfl rfl ?_
    refine⟨[],[],[], .returned und,⟨5,[(3,eO1 0),(2,iO1 0),(1,iO1 0),(0,srO (.p (des ds)))]⟩,rfl,sk,sk,?_⟩
    exact qJl (qEo ds) (i64 0) (i64 0) (i64 0) rfl rfl rfl rfl rfl (by rw [e];rfl)
   ·rw [qTC,if_neg hv] at hC
    refine hC.eq rfl ?_
    refine And.intro (fun h=>absurd (show(380:Int)=0 from h) (by decide)) (fun _=>?_)
    have e:qD4 s=.inl ((0,0),3):=e.trans (if_neg hv)
    refine qDe Tryz.func54 rfl rfl rfl ?_
    refine⟨[],[],[], .returned und,⟨5,[(3,eO1 3),(2,iO1 0),(1,iO1 0),(0,srO (.p .nils))]⟩,rfl,sk,sk,?_⟩
    exact qJl (qEo []) (i64 0) (i64 0) (i64 3) rfl ⟨_,rfl,_,_,rfl, .inr (.inr ⟨6,rfl⟩),rfl⟩ rfl rfl rfl (by rw [e];rfl)
set_option maxHeartbeats 40000000
theorem qEI (n:Int):Pure cx 116 [i64 n] (·=.ret [.bool (qBh n)]):=by
 refine qAB Tryz.func116 rfl rfl rfl ?_
 (first | refine qAP (fun h1=>?_) (fun h1=>?_) | refine qAQ (fun h1=>?_) (fun h1=>?_) | refine qAR (fun h1=>?_) (fun h1=>?_))
 ·have h1:(0:Int)≤n:=h1
  (first | refine qAP (fun h2=>?_) (fun h2=>?_) | refine qAQ (fun h2=>?_) (fun h2=>?_) | refine qAR (fun h2=>?_) (fun h2=>?_))
  ·have h2:n≤9999:=h2
   exact qAF _ rfl rfl (qAM (by simp [qBh,h1,h2]))
  ·have h2:¬ n≤9999:=h2
   exact qAF _ rfl rfl (qAM (by simp [qBh,h2]))
 ·have h1:¬ (0:Int)≤n:=h1
  exact qAF _ rfl rfl (qAM (by simp [qBh,h1]))
theorem qSj (r:Rf) (hr:BigR r):Pure cx 159 [r.pv] (·=.ret [.bool (qBk r)]):=by
 refine qAB Tryz.func159 rfl rfl rfl ?_
 have hN:=qHS r.name hr.name
 by_cases n1:qAp r.name=true
 rotate_left
 ·rw [Bool.not_eq_true] at n1
  rw [n1] at hN
  refine hN.eq rfl ?_
  exact qAF _ rfl rfl (qAM (by rw [qBk,n1];rfl))
 rw [n1] at hN
 refine hN.eq rfl ?_
 have hP:=qHS r.plate hr.plate
 have hA:=qEI r.n
 (first | refine qAP (fun h1=>?_) (fun h1=>?_) | refine qAQ (fun h1=>?_) (fun h1=>?_) | refine qAR (fun h1=>?_) (fun h1=>?_))
 ·have h1:r.mode=0:=h1
  (first | refine qAP (fun h2=>?_) (fun h2=>?_) | refine qAQ (fun h2=>?_) (fun h2=>?_) | refine qAR (fun h2=>?_) (fun h2=>?_))
  ·have h2:r.plate=[]:=h2
   (first | refine qAP (fun h3=>?_) (fun h3=>?_) | refine qAQ (fun h3=>?_) (fun h3=>?_) | refine qAR (fun h3=>?_) (fun h3=>?_))
   ·have h3:r.n=0:=h3
    exact qAF _ rfl rfl (qAM (by simp [qBk,n1,h1,h2,h3]))
   ·have h3:¬ r.n=0:=h3
    exact qAF _ rfl rfl (qAM (by simp [qBk,n1,h1,h2,h3]))
  ·have h2:¬ r.plate=[]:=h2
   exact qAF _ rfl rfl (qAM (by simp [qBk,n1,h1,h2]))
 have h1:¬ r.mode=0:=h1
 (first | refine qAP (fun h4=>?_) (fun h4=>?_) | refine qAQ (fun h4=>?_) (fun h4=>?_) | refine qAR (fun h4=>?_) (fun h4=>?_))
 ·have h4:r.mode=3:=h4
  (first | refine qAP (fun h2=>?_) (fun h2=>?_) | refine qAQ (fun h2=>?_) (fun h2=>?_) | refine qAR (fun h2=>?_) (fun h2=>?_))
  ·have h2:r.plate=[]:=h2
   (first | refine qAP (fun h3=>?_) (fun h3=>?_) | refine qAQ (fun h3=>?_) (fun h3=>?_) | refine qAR (fun h3=>?_) (fun h3=>?_))
   ·have h3:r.n=0:=h3
    exact qAF _ rfl rfl (qAM (by simp [qBk,n1,h4,h2,h3]))
   ·have h3:¬ r.n=0:=h3
    exact qAF _ rfl rfl (qAM (by simp [qBk,n1,h4,h2,h3]))
  ·have h2:¬ r.plate=[]:=h2
   exact qAF _ rfl rfl (qAM (by simp [qBk,n1,h4,h2]))
 have h4:¬ r.mode=3:=h4
 (first | refine qAP (fun h5=>?_) (fun h5=>?_) | refine qAQ (fun h5=>?_) (fun h5=>?_) | refine qAR (fun h5=>?_) (fun h5=>?_))
 ·have h5:r.mode=1:=h5
  by_cases n2:qAp r.plate=true
  ·rw [n2] at hP
   refine hP.eq rfl ?_
   refine hA.eq rfl ?_
   exact qAF _ rfl rfl (qAM (by simp [qBk,n1,n2,h5]))
  ·rw [Bool.not_eq_true] at n2
   rw [n2] at hP
   refine hP.eq rfl ?_
   exact qAF _ rfl rfl (qAM (by simp [qBk,n1,n2,h5]))
 have h5:¬ r.mode=1:=h5
 (first | refine qAP (fun h6=>?_) (fun h6=>?_) | refine qAQ (fun h6=>?_) (fun h6=>?_) | refine qAR (fun h6=>?_) (fun h6=>?_))
 ·have h6:r.mode=2:=h6
  (first | refine qAP (fun h2=>?_) (fun h2=>?_) | refine qAQ (fun h2=>?_) (fun h2=>?_) | refine qAR (fun h2=>?_) (fun h2=>?_))
  ·have h2:r.plate=[]:=h2
   refine hA.eq rfl ?_
   exact qAF _ rfl rfl (qAM (by simp [qBk,n1,h6,h2]))
  ·have h2:¬ r.plate=[]:=h2
   exact qAF _ rfl rfl (qAM (by simp [qBk,n1,h6,h2]))
 have h6:¬ r.mode=2:=h6
 exact qAF _ rfl rfl (qAM (by simp [qBk,h1,h4,h5,h6]))
theorem qTX (op n rel val:Int) (r:Rf) (st:List Int) (ar:List Cd) (hr:BigR r) (hs:st.length≤9223372036854775807):Pure cx 186 [(Cd.mk op n rel val r st ar).pv] (·=.ret [.bool (qAS op n rel val r st)]):=by
 refine qAB Tryz.func186 rfl rfl rfl ?_
 have hRf:=qSj r hr
 have hNn:=qEI n
 have hNv:=qEI val
 have hm:(st.map i64).length=st.length:=List.length_map ..
 (first | refine qAP (fun o1=>?_) (fun o1=>?_) | refine qAQ (fun o1=>?_) (fun o1=>?_) | refine qAR (fun o1=>?_) (fun o1=>?_))
 ·have o1:op=1:=o1
  by_cases r1:qBk r=true
  rotate_left
  ·rw [Bool.not_eq_true] at r1
   rw [r1] at hRf
   refine hRf.eq rfl ?_
   exact qAF _ rfl rfl (qAM (by simp [qAS, *]))
  rw [r1] at hRf
  refine hRf.eq rfl ?_
  by_cases r2:qBh n=true
  rotate_left
  ·rw [Bool.not_eq_true] at r2
   rw [r2] at hNn
   refine hNn.eq rfl ?_
   exact qAF _ rfl rfl (qAM (by simp [qAS, *]))
  rw [r2] at hNn
  refine hNn.eq rfl ?_
  (first | refine qAP (fun r3=>?_) (fun r3=>?_) | refine qAQ (fun r3=>?_) (fun r3=>?_) | refine qAR (fun r3=>?_) (fun r3=>?_))
  rotate_left
  ·have r3:¬ rel=0:=r3
   exact qAF _ rfl rfl (qAM (by simp [qAS, *]))
  have r3:rel=0:=r3
  (first | refine qAP (fun r4=>?_) (fun r4=>?_) | refine qAQ (fun r4=>?_) (fun r4=>?_) | refine qAR (fun r4=>?_) (fun r4=>?_))
  rotate_left
  ·have r4:¬ val=0:=r4
   exact qAF _ rfl rfl (qAM (by simp [qAS, *]))
  have r4:val=0:=r4
  (first | refine qAP (fun r9=>?_) (fun r9=>?_) | refine qAQ (fun r9=>?_) (fun r9=>?_) | refine qAR (fun r9=>?_) (fun r9=>?_))
  rotate_left
  ·have r9:¬ ((st.map i64).length:Int)=0:=r9
   have r9:¬ st=[]:=fun e=>r9 (by rw [e];rfl)
   exact qAF _ rfl rfl (qAM (by simp [qAS, *]))
  have r9:((st.map i64).length:Int)=0:=r9
  have r9:st=[]:=by rw [List.length_map] at r9;exact List.length_eq_zero_iff.1 (by omega)
  exact qAF _ rfl rfl (qAM (by simp [qAS, *]))
 have o1:¬ op=1:=o1
 (first | refine qAP (fun o2=>?_) (fun o2=>?_) | refine qAQ (fun o2=>?_) (fun o2=>?_) | refine qAR (fun o2=>?_) (fun o2=>?_))
 ·have o2:op=2:=o2
  by_cases r1:qBk r=true
  rotate_left
  ·rw [Bool.not_eq_true] at r1
   rw [r1] at hRf
   refine hRf.eq rfl ?_
   exact qAF _ rfl rfl (qAM (by simp [qAS, *]))
  rw [r1] at hRf
  refine hRf.eq rfl ?_
  by_cases r2:qBh n=true
  rotate_left
  ·rw [Bool.not_eq_true] at r2
   rw [r2] at hNn
   refine hNn.eq rfl ?_
   exact qAF _ rfl rfl (qAM (by simp [qAS, *]))
  rw [r2] at hNn
  refine hNn.eq rfl ?_
  (first | refine qAP (fun r3=>?_) (fun r3=>?_) | refine qAQ (fun r3=>?_) (fun r3=>?_) | refine qAR (fun r3=>?_) (fun r3=>?_))
  rotate_left
  ·have r3:¬ rel=0:=r3
   exact qAF _ rfl rfl (qAM (by simp [qAS, *]))
  have r3:rel=0:=r3
  (first | refine qAP (fun r4=>?_) (fun r4=>?_) | refine qAQ (fun r4=>?_) (fun r4=>?_) | refine qAR (fun r4=>?_) (fun r4=>?_))
  rotate_left
  ·have r4:¬ val=0:=r4
   exact qAF _ rfl rfl (qAM (by simp [qAS, *]))
  have r4:val=0:=r4
  (first | refine qAP (fun r9=>?_) (fun r9=>?_) | refine qAQ (fun r9=>?_) (fun r9=>?_) | refine qAR (fun r9=>?_) (fun r9=>?_))
  rotate_left
  ·have r9:¬ ((st.map i64).length:Int)=0:=r9
   have r9:¬ st=[]:=fun e=>r9 (by rw [e];rfl)
   exact qAF _ rfl rfl (qAM (by simp [qAS, *]))
  have r9:((st.map i64).length:Int)=0:=r9
  have r9:st=[]:=by rw [List.length_map] at r9;exact List.length_eq_zero_iff.1 (by omega)
  exact qAF _ rfl rfl (qAM (by simp [qAS, *]))
 have o2:¬ op=2:=o2
 (first | refine qAP (fun o3=>?_) (fun o3=>?_) | refine qAQ (fun o3=>?_) (fun o3=>?_) | refine qAR (fun o3=>?_) (fun o3=>?_))
 ·have o3:op=3:=o3
  by_cases r1:qBk r=true
  rotate_left
  ·rw [Bool.not_eq_true] at r1
   rw [r1] at hRf
   refine hRf.eq rfl ?_
   exact qAF _ rfl rfl (qAM (by simp [qAS, *]))
  rw [r1] at hRf
  refine hRf.eq rfl ?_
  by_cases r2:qBh n=true
  rotate_left
  ·rw [Bool.not_eq_true] at r2
   rw [r2] at hNn
   refine hNn.eq rfl ?_
   exact qAF _ rfl rfl (qAM (by simp [qAS, *]))
  rw [r2] at hNn
  refine hNn.eq rfl ?_
  (first | refine qAP (fun r3=>?_) (fun r3=>?_) | refine qAQ (fun r3=>?_) (fun r3=>?_) | refine qAR (fun r3=>?_) (fun r3=>?_))
  rotate_left
  ·have r3:¬ rel=0:=r3
   exact qAF _ rfl rfl (qAM (by simp [qAS, *]))
  have r3:rel=0:=r3
  (first | refine qAP (fun r4=>?_) (fun r4=>?_) | refine qAQ (fun r4=>?_) (fun r4=>?_) | refine qAR (fun r4=>?_) (fun r4=>?_))
  rotate_left
  ·have r4:¬ val=0:=r4
   exact qAF _ rfl rfl (qAM (by simp [qAS, *]))
  have r4:val=0:=r4
  (first | refine qAP (fun r9=>?_) (fun r9=>?_) | refine qAQ (fun r9=>?_) (fun r9=>?_) | refine qAR (fun r9=>?_) (fun r9=>?_))
  rotate_left
  ·have r9:¬ ((st.map i64).length:Int)=0:=r9
   have r9:¬ st=[]:=fun e=>r9 (by rw [e];rfl)
   exact qAF _ rfl rfl (qAM (by simp [qAS, *]))
  have r9:((st.map i64).length:Int)=0:=r9
  have r9:st=[]:=by rw [List.length_map] at r9;exact List.length_eq_zero_iff.1 (by omega)
  exact qAF _ rfl rfl (qAM (by simp [qAS, *]))
 have o3:¬ op=3:=o3
 (first | refine qAP (fun o4=>?_) (fun o4=>?_) | refine qAQ (fun o4=>?_) (fun o4=>?_) | refine qAR (fun o4=>?_) (fun o4=>?_))
 ·have o4:op=4:=o4
  by_cases r1:qBk r=true
  rotate_left
  ·rw [Bool.not_eq_true] at r1
   rw [r1] at hRf
   refine hRf.eq rfl ?_
   exact qAF _ rfl rfl (qAM (by simp [qAS, *]))
  rw [r1] at hRf
  refine hRf.eq rfl ?_
  by_cases r2:qBh n=true
  rotate_left
  ·rw [Bool.not_eq_true] at r2
   rw [r2] at hNn
   refine hNn.eq rfl ?_
   exact qAF _ rfl rfl (qAM (by simp [qAS, *]))
  rw [r2] at hNn
  refine hNn.eq rfl ?_
  (first | refine qAP (fun r3=>?_) (fun r3=>?_) | refine qAQ (fun r3=>?_) (fun r3=>?_) | refine qAR (fun r3=>?_) (fun r3=>?_))
  rotate_left
  ·have r3:¬ rel=0:=r3
   exact qAF _ rfl rfl (qAM (by simp [qAS, *]))
  have r3:rel=0:=r3
  (first | refine qAP (fun r4=>?_) (fun r4=>?_) | refine qAQ (fun r4=>?_) (fun r4=>?_) | refine qAR (fun r4=>?_) (fun r4=>?_))
  rotate_left
  ·have r4:¬ val=0:=r4
   exact qAF _ rfl rfl (qAM (by simp [qAS, *]))
  have r4:val=0:=r4
  (first | refine qAP (fun r9=>?_) (fun r9=>?_) | refine qAQ (fun r9=>?_) (fun r9=>?_) | refine qAR (fun r9=>?_) (fun r9=>?_))
  rotate_left
  ·have r9:¬ ((st.map i64).length:Int)=0:=r9
   have r9:¬ st=[]:=fun e=>r9 (by rw [e];rfl)
   exact qAF _ rfl rfl (qAM (by simp [qAS, *]))
  have r9:((st.map i64).length:Int)=0:=r9
  have r9:st=[]:=by rw [List.length_map] at r9;exact List.length_eq_zero_iff.1 (by omega)
  exact qAF _ rfl rfl (qAM (by simp [qAS, *]))
 have o4:¬ op=4:=o4
 (first | refine qAP (fun o5=>?_) (fun o5=>?_) | refine qAQ (fun o5=>?_) (fun o5=>?_) | refine qAR (fun o5=>?_) (fun o5=>?_))
 rotate_left
 ·have o5:¬ op=5:=o5
  (first | refine qAP (fun o6=>?_) (fun o6=>?_) | refine qAQ (fun o6=>?_) (fun o6=>?_) | refine qAR (fun o6=>?_) (fun o6=>?_))
  rotate_left
  ·have o6:¬ op=6:=o6
   exact qAF _ rfl rfl (qAM (by simp [qAS, *]))
  have o6:op=6:=o6
  by_cases r1:qBk r=true
  rotate_left
  ·rw [Bool.not_eq_true] at r1
   rw [r1] at hRf
   refine hRf.eq rfl ?_
   exact qAF _ rfl rfl (qAM (by simp [qAS, *]))
  rw [r1] at hRf
  refine hRf.eq rfl ?_
  (first | refine qAP (fun r2=>?_) (fun r2=>?_) | refine qAQ (fun r2=>?_) (fun r2=>?_) | refine qAR (fun r2=>?_) (fun r2=>?_))
  rotate_left
  ·have r2:¬ r.mode=3:=r2
   exact qAF _ rfl rfl (qAM (by simp [qAS, *]))
  have r2:r.mode=3:=r2
  by_cases r3:qBh val=true
  rotate_left
  ·rw [Bool.not_eq_true] at r3
   rw [r3] at hNv
   refine hNv.eq rfl ?_
   exact qAF _ rfl rfl (qAM (by simp [qAS, *]))
  rw [r3] at hNv
  refine hNv.eq rfl ?_
  by_cases r4:qBh n=true
  rotate_left
  ·rw [Bool.not_eq_true] at r4
   rw [r4] at hNn
   refine hNn.eq rfl ?_
   exact qAF _ rfl rfl (qAM (by simp [qAS, *]))
  rw [r4] at hNn
  refine hNn.eq rfl ?_
  (first | refine qAP (fun r5=>?_) (fun r5=>?_) | refine qAQ (fun r5=>?_) (fun r5=>?_) | refine qAR (fun r5=>?_) (fun r5=>?_))
  rotate_left
  ·have r5:¬ (1:Int)≤rel:=r5
   exact qAF _ rfl rfl (qAM (by simp [qAS, *]))
  have r5:(1:Int)≤rel:=r5
  (first | refine qAP (fun r6=>?_) (fun r6=>?_) | refine qAQ (fun r6=>?_) (fun r6=>?_) | refine qAR (fun r6=>?_) (fun r6=>?_))
  rotate_left
  ·have r6:¬ rel≤4:=r6
   exact qAF _ rfl rfl (qAM (by simp [qAS, *]))
  have r6:rel≤4:=r6
  (first | refine qAP (fun r9=>?_) (fun r9=>?_) | refine qAQ (fun r9=>?_) (fun r9=>?_) | refine qAR (fun r9=>?_) (fun r9=>?_))
  rotate_left
  ·have r9:¬ ((st.map i64).length:Int)=0:=r9
   have r9:¬ st=[]:=fun e=>r9 (by rw [e];rfl)
   exact qAF _ rfl rfl (qAM (by simp [qAS, *]))
  have r9:((st.map i64).length:Int)=0:=r9
  have r9:st=[]:=by rw [List.length_map] at r9;exact List.length_eq_zero_iff.1 (by omega)
  exact qAF _ rfl rfl (qAM (by simp [qAS, *]))
 have o5:op=5:=o5
 have hno:qG0 st=false→qAS op n rel val r st=false:=fun h=>by simp [qAS, *]
 (first | refine qAP (fun h1=>?_) (fun h1=>?_) | refine qAQ (fun h1=>?_) (fun h1=>?_) | refine qAR (fun h1=>?_) (fun h1=>?_))
 ·have h1:((st.map i64).length:Int)<1:=h1
  rw [hm] at h1
  exact qAF _ rfl rfl (qAM (hno (by rw [qG0,decide_eq_false (by omega)];rfl)).symm)
 have h1:¬ ((st.map i64).length:Int)<1:=h1
 rw [hm] at h1
 (first | refine qAP (fun h2=>?_) (fun h2=>?_) | refine qAQ (fun h2=>?_) (fun h2=>?_) | refine qAR (fun h2=>?_) (fun h2=>?_))
 ·have h2:(8:Int)<((st.map i64).length:Nat):=h2
  rw [hm] at h2
  exact qAF _ rfl rfl (qAM (hno (by rw [qG0,decide_eq_false (show ¬ st.length≤8 by omega),Bool.and_false];rfl)).symm)
 have h2:¬ (8:Int)<((st.map i64).length:Nat):=h2
 rw [hm] at h2
 have hB0:qG0 st=qOh st (st.length - 0) 0:=by rw [qG0,decide_eq_true (show 1≤st.length by omega),decide_eq_true (show st.length≤8 by omega)];rfl
 refine⟨Nat,fun k=>[(1, .ptr 0 0 0),(3, .p (i64 k))],fun _=>⟨1,[(0,cO ((Cd.mk op n rel val r st ar).cells.map .p))]⟩,fun k=>k≤st.length∧qG0 st=qOh st (st.length - k) k,fun k=>st.length - k,?_,?_⟩
 ·exact⟨0,⟨Nat.zero_le _,hB0⟩,qAC [] [] [] rfl (sk) (sk) rfl⟩
 rintro k ⟨k1,k2⟩
 clear hB0
 (first | refine qAP (fun h3=>?_) (fun h3=>?_) | refine qAQ (fun h3=>?_) (fun h3=>?_) | refine qAR (fun h3=>?_) (fun h3=>?_))
 rotate_left
 ·have h3:¬ (k:Int)<((st.map i64).length:Nat):=h3
  rw [hm] at h3
  rw [show st.length - k=0 by omega,qOh] at k2
  by_cases r1:qBk r=true
  rotate_left
  ·rw [Bool.not_eq_true] at r1
   rw [r1] at hRf
   refine hRf.eq rfl ?_
   exact qAF _ rfl rfl (qAM (by simp [qAS, *]))
  rw [r1] at hRf
  refine hRf.eq rfl ?_
  (first | refine qAP (fun r2=>?_) (fun r2=>?_) | refine qAQ (fun r2=>?_) (fun r2=>?_) | refine qAR (fun r2=>?_) (fun r2=>?_))
  rotate_left
  ·have r2:¬ n=0:=r2
   exact qAF _ rfl rfl (qAM (by simp [qAS, *]))
  have r2:n=0:=r2
  (first | refine qAP (fun r3=>?_) (fun r3=>?_) | refine qAQ (fun r3=>?_) (fun r3=>?_) | refine qAR (fun r3=>?_) (fun r3=>?_))
  rotate_left
  ·have r3:¬ rel=0:=r3
   exact qAF _ rfl rfl (qAM (by simp [qAS, *]))
  have r3:rel=0:=r3
  (first | refine qAP (fun r4=>?_) (fun r4=>?_) | refine qAQ (fun r4=>?_) (fun r4=>?_) | refine qAR (fun r4=>?_) (fun r4=>?_))
  rotate_left
  ·have r4:¬ val=0:=r4
   exact qAF _ rfl rfl (qAM (by simp [qAS, *]))
  have r4:val=0:=r4
  exact qAF _ rfl rfl (qAM (by simp [qAS, *]))
 have h3:(k:Int)<((st.map i64).length:Nat):=h3
 rw [hm] at h3
 have hk:k<st.length:=by omega
 obtain⟨f,hf⟩:∃ f,st.length - k=f+1:=⟨st.length - k - 1,by omega⟩
 rw [hf,qOh] at k2
 refine VDraw.seq rfl ?_
 refine⟨_,⟨by omega,i64 (st.getD k 0),qED hk,rfl⟩,?_⟩
 have hN:=qEI (st.getD k 0)
 by_cases n1:qBh (st.getD k 0)=true
 rotate_left
 ·rw [Bool.not_eq_true] at n1
  rw [n1] at hN k2
  refine hN.eq rfl ?_
  exact qAF _ rfl rfl (qAM (hno (by rw [k2];simp)).symm)
 rw [n1] at hN k2
 refine hN.eq rfl ?_
 (first | refine qAP (fun h4=>?_) (fun h4=>?_) | refine qAQ (fun h4=>?_) (fun h4=>?_) | refine qAR (fun h4=>?_) (fun h4=>?_))
 ·have h4:(0:Int)<(k:Nat):=h4
  obtain⟨j,rfl⟩:∃ j,k=j+1:=⟨k - 1,by omega⟩
  refine⟨_,⟨by omega,i64 (st.getD (j+1) 0),qED hk,rfl⟩,?_⟩
  refine⟨(j:Int),by rw [show((j+1:Nat):Int) - 1=(j:Int) by omega];exact w6z,?_⟩
  refine⟨_,⟨by omega,i64 (st.getD j 0),qED (by omega),rfl⟩,?_⟩
  (first | refine qAP (fun h5=>?_) (fun h5=>?_) | refine qAQ (fun h5=>?_) (fun h5=>?_) | refine qAR (fun h5=>?_) (fun h5=>?_))
  ·have h5:st.getD (j+1) 0≤st.getD j 0:=h5
   exact qAF _ rfl rfl (qAM (hno (by rw [k2,Nat.add_sub_cancel,decide_eq_false (show ¬ st.getD j 0<st.getD (j+1) 0 by omega),decide_eq_false (by omega)];rfl)).symm)
  ·have h5:¬ st.getD (j+1) 0≤st.getD j 0:=h5
   refine⟨_,w6z,?_⟩
   exact⟨j+1+1,⟨by omega,by rw [k2,Nat.add_sub_cancel,decide_eq_true (show st.getD j 0<st.getD (j+1) 0 by omega),Bool.or_true,show st.length - (j+1+1)=f by omega];rfl⟩,qAC [] [] [] rfl (sk) (sk) rfl,by show st.length - (j+1+1)<st.length - (j+1);omega⟩
 ·have h4:¬ (0:Int)<(k:Nat):=h4
  have hk0:k=0:=by omega
  subst hk0
  refine⟨_,w6z,?_⟩
  exact⟨0+1,⟨by omega,by rw [k2,show st.length - (0+1)=f by omega];rfl⟩,qAC [] [] [] rfl (sk) (sk) rfl,by show st.length - (0+1)<st.length - 0;omega⟩
def qXo:Option Nat→Int
 | some l=>(l:Int)
 | none=>-1
def qXK (d:Nat):Prop:=∀ (c:Cd) (left p:Nat),qDk c→left≤1000→p+d=9→Pure cx 162 [c.pv,i64 left,i64 p] (·=.ret [i64 (qXo (qAn d c left))])
theorem qRh {r:Rf} (h4:r.cells=rf0.cells):r=rf0:=by
 obtain⟨a,b,c,d⟩:=r
 simp only [Rf.cells,rf0,List.cons.injEq,PV.str.injEq,PV.int.injEq,true_and,and_true] at h4
 obtain⟨rfl,rfl,rfl,rfl⟩:=h4
 rfl
theorem qUT (d:Nat) (ih:qXK d):qXK (d+1):=by
 rintro⟨op,n,rel,val,r,st,ar⟩ left p hb hl hp9
 simp only [qDk] at hb
 obtain⟨hb1,hb2,hb3,hb4⟩:=hb
 have hT:=qTX op n rel val r st ar hb1 hb2
 have epv:(Cd.mk op n rel val r st ar).pv=.agg [i64 op,i64 n,i64 rel,i64 val, .str r.name,i64 r.mode, .str r.plate,i64 r.n,ints st,cds ar]:=by
  show PV.agg [i64 op,i64 n,i64 rel,i64 val, .str r.name,i64 r.mode, .str r.plate,i64 r.n,ints st, .lsts 10 (qBS ar)]=_
  rw [qB0]
 rw [epv] at hT ⊢
 generalize hR:qAn (d+1) (.mk op n rel val r st ar) left=R
 rw [qAn] at hR
 refine qAB Tryz.func162 rfl rfl rfl ?_
 rcases Nat.eq_zero_or_pos left with h0 | h0
 ·subst h0
  rw [if_pos rfl] at hR
  refine And.intro (fun _=>?_) (fun h=>absurd (show(0:Int)<1 by decide) h)
  exact qAF _ rfl rfl (qEB (by rw [← hR];rfl))
 obtain⟨m,rfl⟩:∃ m,left=m+1:=⟨left - 1,by omega⟩
 rw [if_neg (by omega),Nat.add_sub_cancel] at hR
 have hno:qAa op n rel val r st ar.length=false→R=none:=fun h=>by rw [← hR,if_neg (by rw [h];decide)]
 have hyes:qAa op n rel val r st ar.length=true→ar.foldlM (fun l c=>qAn d c l) m=R:=fun h=>by rw [← hR,if_pos h]
 clear hR
 refine And.intro (fun h=>absurd (show((m+1:Nat):Int)<1 from h) (by omega)) (fun _=>?_)
 refine And.intro (fun h=>absurd (show(8:Int)<(p:Nat) from h) (by omega)) (fun _=>?_)
 (first | refine qAP (fun o7=>?_) (fun o7=>?_) | refine qAQ (fun o7=>?_) (fun o7=>?_) | refine qAR (fun o7=>?_) (fun o7=>?_))
 ·have o7:op=7:=o7
  by_cases hk:ar.length=1
  rotate_left
  ·refine And.intro (fun h=>absurd (show((ar.map Cd.cells).length:Int)=1 from h) (by rw [List.length_map];omega)) (fun _=>?_)
   exact qAF _ rfl rfl (qEB (by rw [hno (by simp [qAa,qAb, *])];rfl))
  refine And.intro (fun _=>?_) (fun h=>absurd (show((ar.map Cd.cells).length:Int)=1 by rw [List.length_map];omega) h)
  refine And.intro (fun h=>absurd (show(1:Int)=0 from h) (by decide)) (fun _=>?_)
  refine And.intro (fun r1=>?_) (fun r1=>?_)
  rotate_left
  ·have r1:¬ n=0:=r1
   exact qAF _ rfl rfl (qEB (by rw [hno (by simp [qAa,qAb,qA0, *])];rfl))
  have r1:n=0:=r1
  refine And.intro (fun r2=>?_) (fun r2=>?_)
  rotate_left
  ·have r2:¬ rel=0:=r2
   exact qAF _ rfl rfl (qEB (by rw [hno (by simp [qAa,qAb,qA0, *])];rfl))
  have r2:rel=0:=r2
  refine And.intro (fun r3=>?_) (fun r3=>?_)
  rotate_left
  ·have r3:¬ val=0:=r3
   exact qAF _ rfl rfl (qEB (by rw [hno (by simp [qAa,qAb,qA0, *])];rfl))
  have r3:val=0:=r3
  refine⟨⟨by kernel_rfl,by kernel_rfl⟩,fun r4=>?_,fun r4=>?_⟩
  rotate_left
  ·have r4:¬ r=rf0:=fun e=>r4 (by rw [e];rfl)
   exact qAF _ rfl rfl (qEB (by rw [hno (by simp [qAa,qAb,qA0, *])];rfl))
  have r4:r=rf0:=qRh (by first | exact r4 | (injection r4))
  refine And.intro (fun r5=>?_) (fun r5=>?_)
  rotate_left
  ·have r5:¬ ((st.map i64).length:Int)=0:=r5
   have r5:¬ st=[]:=fun e=>r5 (by rw [e];rfl)
   exact qAF _ rfl rfl (qEB (by rw [hno (by simp [qAa,qAb,qA0, *])];rfl))
  have r5:((st.map i64).length:Int)=0:=r5
  have r5:st=[]:=by rw [List.length_map] at r5;exact List.length_eq_zero_iff.1 (by omega)
  have hy:=hyes (by simp [qAa,qAb,qA0, *])
  refine⟨(m:Int),by rw [show((m+1:Nat):Int) - 1=(m:Int) by omega];exact w6z,?_⟩
  refine⟨Nat × Nat,fun x=>[(1, .p (i64 x.2)),(2, .p (i64 p)),(3, .ptr 0 0 0),(7, .p (i64 1)),(8, .p (i64 x.1))],fun x=>⟨1,[(0,cO [.p (i64 op), .p (i64 n), .p (i64 rel), .p (i64 val), .p (.str r.name), .p (i64 r.mode), .p (.str r.plate), .p (i64 r.n), .p (ints st), .p (cds ar)])]⟩,fun x=>x.1≤ar.length∧x.2≤1000∧(ar.drop x.1).foldlM (fun l c=>qAn d c l) x.2=R,fun x=>ar.length - x.1,?_,?_⟩
  ·exact⟨(0,m),⟨Nat.zero_le _,by simp only [];omega,hy⟩,qAC [] [] [] rfl (sk) (sk) rfl⟩
  rintro⟨i,l⟩ ⟨i1,i2,i3⟩
  simp only [] at i1 i2 i3
  (first | refine qAP (fun j1=>?_) (fun j1=>?_) | refine qAQ (fun j1=>?_) (fun j1=>?_) | refine qAR (fun j1=>?_) (fun j1=>?_))
  rotate_left
  ·have j1:¬ (i:Int)<1:=j1
   rw [List.drop_eq_nil_of_le (by omega),List.foldlM_nil] at i3
   exact qAF _ rfl rfl (qEB (by rw [← i3];rfl))
  have j1:(i:Int)<1:=j1
  have hi:i<ar.length:=by omega
  rw [qEs cd0 hi,List.foldlM_cons] at i3
  have hbx:=qBQ hb4 (qAK cd0 hi)
  have hcell:=qDA hi
  rcases hx:ar.getD i cd0 with ⟨o',n',rl',vl',rf',st',ar'⟩
  rw [hx] at i3 hbx hcell
  refine⟨_,⟨by omega,(Cd.mk o' n' rl' vl' rf' st' ar').cells,hcell,rfl⟩,?_⟩
  refine⟨((p+1:Nat):Int),w6z,?_⟩
  have hrec:=ih (.mk o' n' rl' vl' rf' st' ar') l (p+1) hbx (by omega) (by omega)
  rcases hv:qAn d (.mk o' n' rl' vl' rf' st' ar') l with _ | l2
  ·rw [hv] at hrec i3
   refine hrec.eq rfl ?_
   refine And.intro (fun _=>?_) (fun h=>absurd (show(-1:Int)<0 by decide) h)
   exact qAF _ rfl rfl (qEB (by rw [← i3];rfl))
  ·have hle:=qBy _ _ _ _ hv
   rw [hv] at hrec i3
   refine hrec.eq rfl ?_
   refine And.intro (fun h=>absurd (show(l2:Int)<0 from h) (by omega)) (fun _=>?_)
   refine⟨_,w6z,?_⟩
   exact⟨(i+1,l2),⟨by simp only [];omega,by simp only [];omega,i3⟩,qAC [] [] [] rfl (sk) (sk) rfl,by show ar.length - (i+1)<ar.length - i;omega⟩
 have o7:¬ op=7:=o7
 (first | refine qAP (fun o8=>?_) (fun o8=>?_) | refine qAQ (fun o8=>?_) (fun o8=>?_) | refine qAR (fun o8=>?_) (fun o8=>?_))
 ·have o8:op=8:=o8
  by_cases hk:ar.length=2
  rotate_left
  ·refine And.intro (fun h=>absurd (show((ar.map Cd.cells).length:Int)=2 from h) (by rw [List.length_map];omega)) (fun _=>?_)
   exact qAF _ rfl rfl (qEB (by rw [hno (by simp [qAa,qAb, *])];rfl))
  refine And.intro (fun _=>?_) (fun h=>absurd (show((ar.map Cd.cells).length:Int)=2 by rw [List.length_map];omega) h)
  refine And.intro (fun h=>absurd (show(2:Int)=0 from h) (by decide)) (fun _=>?_)
  refine And.intro (fun r1=>?_) (fun r1=>?_)
  rotate_left
  ·have r1:¬ n=0:=r1
   exact qAF _ rfl rfl (qEB (by rw [hno (by simp [qAa,qAb,qA0, *])];rfl))
  have r1:n=0:=r1
  refine And.intro (fun r2=>?_) (fun r2=>?_)
  rotate_left
  ·have r2:¬ rel=0:=r2
   exact qAF _ rfl rfl (qEB (by rw [hno (by simp [qAa,qAb,qA0, *])];rfl))
  have r2:rel=0:=r2
  refine And.intro (fun r3=>?_) (fun r3=>?_)
  rotate_left
  ·have r3:¬ val=0:=r3
   exact qAF _ rfl rfl (qEB (by rw [hno (by simp [qAa,qAb,qA0, *])];rfl))
  have r3:val=0:=r3
  refine⟨⟨by kernel_rfl,by kernel_rfl⟩,fun r4=>?_,fun r4=>?_⟩
  rotate_left
  ·have r4:¬ r=rf0:=fun e=>r4 (by rw [e];rfl)
   exact qAF _ rfl rfl (qEB (by rw [hno (by simp [qAa,qAb,qA0, *])];rfl))
  have r4:r=rf0:=qRh (by first | exact r4 | (injection r4))
  refine And.intro (fun r5=>?_) (fun r5=>?_)
  rotate_left
  ·have r5:¬ ((st.map i64).length:Int)=0:=r5
   have r5:¬ st=[]:=fun e=>r5 (by rw [e];rfl)
   exact qAF _ rfl rfl (qEB (by rw [hno (by simp [qAa,qAb,qA0, *])];rfl))
  have r5:((st.map i64).length:Int)=0:=r5
  have r5:st=[]:=by rw [List.length_map] at r5;exact List.length_eq_zero_iff.1 (by omega)
  have hy:=hyes (by simp [qAa,qAb,qA0, *])
  refine⟨(m:Int),by rw [show((m+1:Nat):Int) - 1=(m:Int) by omega];exact w6z,?_⟩
  refine⟨Nat × Nat,fun x=>[(1, .p (i64 x.2)),(2, .p (i64 p)),(3, .ptr 0 0 0),(7, .p (i64 2)),(8, .p (i64 x.1))],fun x=>⟨1,[(0,cO [.p (i64 op), .p (i64 n), .p (i64 rel), .p (i64 val), .p (.str r.name), .p (i64 r.mode), .p (.str r.plate), .p (i64 r.n), .p (ints st), .p (cds ar)])]⟩,fun x=>x.1≤ar.length∧x.2≤1000∧(ar.drop x.1).foldlM (fun l c=>qAn d c l) x.2=R,fun x=>ar.length - x.1,?_,?_⟩
  ·exact⟨(0,m),⟨Nat.zero_le _,by simp only [];omega,hy⟩,qAC [] [] [] rfl (sk) (sk) rfl⟩
  rintro⟨i,l⟩ ⟨i1,i2,i3⟩
  simp only [] at i1 i2 i3
  (first | refine qAP (fun j1=>?_) (fun j1=>?_) | refine qAQ (fun j1=>?_) (fun j1=>?_) | refine qAR (fun j1=>?_) (fun j1=>?_))
  rotate_left
  ·have j1:¬ (i:Int)<2:=j1
   rw [List.drop_eq_nil_of_le (by omega),List.foldlM_nil] at i3
   exact qAF _ rfl rfl (qEB (by rw [← i3];rfl))
  have j1:(i:Int)<2:=j1
  have hi:i<ar.length:=by omega
  rw [qEs cd0 hi,List.foldlM_cons] at i3
  have hbx:=qBQ hb4 (qAK cd0 hi)
  have hcell:=qDA hi
  rcases hx:ar.getD i cd0 with ⟨o',n',rl',vl',rf',st',ar'⟩
  rw [hx] at i3 hbx hcell
  refine⟨_,⟨by omega,(Cd.mk o' n' rl' vl' rf' st' ar').cells,hcell,rfl⟩,?_⟩
  refine⟨((p+1:Nat):Int),w6z,?_⟩
  have hrec:=ih (.mk o' n' rl' vl' rf' st' ar') l (p+1) hbx (by omega) (by omega)
  rcases hv:qAn d (.mk o' n' rl' vl' rf' st' ar') l with _ | l2
  ·rw [hv] at hrec i3
   refine hrec.eq rfl ?_
   refine And.intro (fun _=>?_) (fun h=>absurd (show(-1:Int)<0 by decide) h)
   exact qAF _ rfl rfl (qEB (by rw [← i3];rfl))
  ·have hle:=qBy _ _ _ _ hv
   rw [hv] at hrec i3
   refine hrec.eq rfl ?_
   refine And.intro (fun h=>absurd (show(l2:Int)<0 from h) (by omega)) (fun _=>?_)
   refine⟨_,w6z,?_⟩
   exact⟨(i+1,l2),⟨by simp only [];omega,by simp only [];omega,i3⟩,qAC [] [] [] rfl (sk) (sk) rfl,by show ar.length - (i+1)<ar.length - i;omega⟩
 have o8:¬ op=8:=o8
 (first | refine qAP (fun o9=>?_) (fun o9=>?_) | refine qAQ (fun o9=>?_) (fun o9=>?_) | refine qAR (fun o9=>?_) (fun o9=>?_))
 ·have o9:op=9:=o9
  by_cases hk:ar.length=2
  rotate_left
  ·refine And.intro (fun h=>absurd (show((ar.map Cd.cells).length:Int)=2 from h) (by rw [List.length_map];omega)) (fun _=>?_)
   exact qAF _ rfl rfl (qEB (by rw [hno (by simp [qAa,qAb, *])];rfl))
  refine And.intro (fun _=>?_) (fun h=>absurd (show((ar.map Cd.cells).length:Int)=2 by rw [List.length_map];omega) h)
  refine And.intro (fun h=>absurd (show(2:Int)=0 from h) (by decide)) (fun _=>?_)
  refine And.intro (fun r1=>?_) (fun r1=>?_)
  rotate_left
  ·have r1:¬ n=0:=r1
   exact qAF _ rfl rfl (qEB (by rw [hno (by simp [qAa,qAb,qA0, *])];rfl))
  have r1:n=0:=r1
  refine And.intro (fun r2=>?_) (fun r2=>?_)
  rotate_left
  ·have r2:¬ rel=0:=r2
   exact qAF _ rfl rfl (qEB (by rw [hno (by simp [qAa,qAb,qA0, *])];rfl))
  have r2:rel=0:=r2
  refine And.intro (fun r3=>?_) (fun r3=>?_)
  rotate_left
  ·have r3:¬ val=0:=r3
   exact qAF _ rfl rfl (qEB (by rw [hno (by simp [qAa,qAb,qA0, *])];rfl))
  have r3:val=0:=r3
  refine⟨⟨by kernel_rfl,by kernel_rfl⟩,fun r4=>?_,fun r4=>?_⟩
  rotate_left
  ·have r4:¬ r=rf0:=fun e=>r4 (by rw [e];rfl)
   exact qAF _ rfl rfl (qEB (by rw [hno (by simp [qAa,qAb,qA0, *])];rfl))
  have r4:r=rf0:=qRh (by first | exact r4 | (injection r4))
  refine And.intro (fun r5=>?_) (fun r5=>?_)
  rotate_left
  ·have r5:¬ ((st.map i64).length:Int)=0:=r5
   have r5:¬ st=[]:=fun e=>r5 (by rw [e];rfl)
   exact qAF _ rfl rfl (qEB (by rw [hno (by simp [qAa,qAb,qA0, *])];rfl))
  have r5:((st.map i64).length:Int)=0:=r5
  have r5:st=[]:=by rw [List.length_map] at r5;exact List.length_eq_zero_iff.1 (by omega)
  have hy:=hyes (by simp [qAa,qAb,qA0, *])
  refine⟨(m:Int),by rw [show((m+1:Nat):Int) - 1=(m:Int) by omega];exact w6z,?_⟩
  refine⟨Nat × Nat,fun x=>[(1, .p (i64 x.2)),(2, .p (i64 p)),(3, .ptr 0 0 0),(7, .p (i64 2)),(8, .p (i64 x.1))],fun x=>⟨1,[(0,cO [.p (i64 op), .p (i64 n), .p (i64 rel), .p (i64 val), .p (.str r.name), .p (i64 r.mode), .p (.str r.plate), .p (i64 r.n), .p (ints st), .p (cds ar)])]⟩,fun x=>x.1≤ar.length∧x.2≤1000∧(ar.drop x.1).foldlM (fun l c=>qAn d c l) x.2=R,fun x=>ar.length - x.1,?_,?_⟩
  ·exact⟨(0,m),⟨Nat.zero_le _,by simp only [];omega,hy⟩,qAC [] [] [] rfl (sk) (sk) rfl⟩
  rintro⟨i,l⟩ ⟨i1,i2,i3⟩
  simp only [] at i1 i2 i3
  (first | refine qAP (fun j1=>?_) (fun j1=>?_) | refine qAQ (fun j1=>?_) (fun j1=>?_) | refine qAR (fun j1=>?_) (fun j1=>?_))
  rotate_left
  ·have j1:¬ (i:Int)<2:=j1
   rw [List.drop_eq_nil_of_le (by omega),List.foldlM_nil] at i3
   exact qAF _ rfl rfl (qEB (by rw [← i3];rfl))
  have j1:(i:Int)<2:=j1
  have hi:i<ar.length:=by omega
  rw [qEs cd0 hi,List.foldlM_cons] at i3
  have hbx:=qBQ hb4 (qAK cd0 hi)
  have hcell:=qDA hi
  rcases hx:ar.getD i cd0 with ⟨o',n',rl',vl',rf',st',ar'⟩
  rw [hx] at i3 hbx hcell
  refine⟨_,⟨by omega,(Cd.mk o' n' rl' vl' rf' st' ar').cells,hcell,rfl⟩,?_⟩
  refine⟨((p+1:Nat):Int),w6z,?_⟩
  have hrec:=ih (.mk o' n' rl' vl' rf' st' ar') l (p+1) hbx (by omega) (by omega)
  rcases hv:qAn d (.mk o' n' rl' vl' rf' st' ar') l with _ | l2
  ·rw [hv] at hrec i3
   refine hrec.eq rfl ?_
   refine And.intro (fun _=>?_) (fun h=>absurd (show(-1:Int)<0 by decide) h)
   exact qAF _ rfl rfl (qEB (by rw [← i3];rfl))
  ·have hle:=qBy _ _ _ _ hv
   rw [hv] at hrec i3
   refine hrec.eq rfl ?_
   refine And.intro (fun h=>absurd (show(l2:Int)<0 from h) (by omega)) (fun _=>?_)
   refine⟨_,w6z,?_⟩
   exact⟨(i+1,l2),⟨by simp only [];omega,by simp only [];omega,i3⟩,qAC [] [] [] rfl (sk) (sk) rfl,by show ar.length - (i+1)<ar.length - i;omega⟩
 have o9:¬ op=9:=o9
 by_cases hk:ar.length=0
 rotate_left
 ·refine And.intro (fun h=>absurd (show((ar.map Cd.cells).length:Int)=0 from h) (by rw [List.length_map];omega)) (fun _=>?_)
  exact qAF _ rfl rfl (qEB (by rw [hno (by simp [qAa,qAb, *])];rfl))
 refine And.intro (fun _=>?_) (fun h=>absurd (show((ar.map Cd.cells).length:Int)=0 by rw [List.length_map];omega) h)
 refine And.intro (fun _=>?_) (fun h=>absurd rfl h)
 by_cases ht:qAS op n rel val r st=true
 rotate_left
 ·rw [Bool.not_eq_true] at ht
  rw [ht] at hT
  refine hT.eq rfl ?_
  exact qAF _ rfl rfl (qEB (by rw [hno (by simp [qAa,qAb, *])];rfl))
 rw [ht] at hT
 refine hT.eq rfl ?_
 have hy:=hyes (by simp [qAa,qAb, *])
 have har:ar=[]:=List.length_eq_zero_iff.1 hk
 rw [har,List.foldlM_nil] at hy
 refine⟨(m:Int),by rw [show((m+1:Nat):Int) - 1=(m:Int) by omega];exact w6z,?_⟩
 exact qAF _ rfl rfl (qEB (by rw [← hy];rfl))
theorem qKk:∀ d,d≤8→qXK d
 | 0,_=>by
  rintro⟨op,n,rel,val,r,st,ar⟩ left p hb hl hp9
  refine qAB Tryz.func162 rfl rfl rfl ?_
  (first | refine qAP (fun h1=>?_) (fun h1=>?_) | refine qAQ (fun h1=>?_) (fun h1=>?_) | refine qAR (fun h1=>?_) (fun h1=>?_))
  ·exact qAF _ rfl rfl rfl
  ·refine And.intro (fun _=>?_) (fun h=>absurd (show(8:Int)<(p:Nat) by omega) h)
   exact qAF _ rfl rfl rfl
 | d+1,h=>qUT d (qKk d (by omega))
theorem qVa (op n rel val:Int) (r:Rf) (st:List Int) (ar:List Cd) (_hs:st.length≤9223372036854775807) (_ha:ar.length≤9223372036854775807):Pure cx 161 [(Cd.mk op n rel val r st ar).pv] (·=.ret [.bool (qEr (.mk op n rel val r st ar))]):=by
 have epv:(Cd.mk op n rel val r st ar).pv=.agg [i64 op,i64 n,i64 rel,i64 val, .str r.name,i64 r.mode, .str r.plate,i64 r.n,ints st,cds ar]:=by
  show PV.agg [i64 op,i64 n,i64 rel,i64 val, .str r.name,i64 r.mode, .str r.plate,i64 r.n,ints st, .lsts 10 (qBS ar)]=_
  rw [qB0]
 rw [epv]
 refine qAB Tryz.func161 rfl rfl rfl ?_
 (first | refine qAP (fun h0=>?_) (fun h0=>?_) | refine qAQ (fun h0=>?_) (fun h0=>?_) | refine qAR (fun h0=>?_) (fun h0=>?_))
 rotate_left
 ·have h0:¬ op=0:=h0
  exact qAF _ rfl rfl (qAM (by simp [qEr,qA0, *]))
 have h0:op=0:=h0
 (first | refine qAP (fun h1=>?_) (fun h1=>?_) | refine qAQ (fun h1=>?_) (fun h1=>?_) | refine qAR (fun h1=>?_) (fun h1=>?_))
 rotate_left
 ·have h1:¬ n=0:=h1
  exact qAF _ rfl rfl (qAM (by simp [qEr,qA0, *]))
 have h1:n=0:=h1
 (first | refine qAP (fun h2=>?_) (fun h2=>?_) | refine qAQ (fun h2=>?_) (fun h2=>?_) | refine qAR (fun h2=>?_) (fun h2=>?_))
 rotate_left
 ·have h2:¬ rel=0:=h2
  exact qAF _ rfl rfl (qAM (by simp [qEr,qA0, *]))
 have h2:rel=0:=h2
 (first | refine qAP (fun h3=>?_) (fun h3=>?_) | refine qAQ (fun h3=>?_) (fun h3=>?_) | refine qAR (fun h3=>?_) (fun h3=>?_))
 rotate_left
 ·have h3:¬ val=0:=h3
  exact qAF _ rfl rfl (qAM (by simp [qEr,qA0, *]))
 have h3:val=0:=h3
 refine⟨⟨by kernel_rfl,by kernel_rfl⟩,fun h4=>?_,fun h4=>?_⟩
 rotate_left
 ·have h4:¬ r=rf0:=fun e=>h4 (by rw [e];rfl)
  exact qAF _ rfl rfl (qAM (by simp [qEr,qA0, *]))
 have h4:r=rf0:=qRh (by first | exact h4 | (injection h4))
 (first | refine qAP (fun h5=>?_) (fun h5=>?_) | refine qAQ (fun h5=>?_) (fun h5=>?_) | refine qAR (fun h5=>?_) (fun h5=>?_))
 rotate_left
 ·have h5:¬ ((st.map i64).length:Int)=0:=h5
  have h5:¬ st=[]:=fun e=>h5 (by rw [e];rfl)
  exact qAF _ rfl rfl (qAM (by simp [qEr,qA0, *]))
 have h5:((st.map i64).length:Int)=0:=h5
 have h5:st=[]:=by rw [List.length_map] at h5;exact List.length_eq_zero_iff.1 (by omega)
 (first | refine qAP (fun h6=>?_) (fun h6=>?_) | refine qAQ (fun h6=>?_) (fun h6=>?_) | refine qAR (fun h6=>?_) (fun h6=>?_))
 ·have h6:((ar.map Cd.cells).length:Int)=0:=h6
  have h6:ar=[]:=by rw [List.length_map] at h6;exact List.length_eq_zero_iff.1 (by omega)
  exact qAF _ rfl rfl (qAM (by simp [qEr,qA0, *]))
 ·have h6:¬ ((ar.map Cd.cells).length:Int)=0:=h6
  have h6:¬ ar=[]:=fun e=>h6 (by rw [e];rfl)
  exact qAF _ rfl rfl (qAM (by simp [qEr,qA0, *]))
set_option maxHeartbeats 4000000
theorem qRp (l:List Cs) (hb:BigL l):Pure cx 119 [css l] (·=.ret [.bool (qBP l)]):=by
 refine qAB Tryz.func119 rfl rfl rfl ?_
 have hll:=hb.len
 have hm:(l.map Cs.cells).length=l.length:=List.length_map ..
 (first | refine qAP (fun h1=>?_) (fun h1=>?_) | refine qAQ (fun h1=>?_) (fun h1=>?_) | refine qAR (fun h1=>?_) (fun h1=>?_))
 ·have h1:((l.map Cs.cells).length:Int)<1:=h1
  rw [hm] at h1
  exact qAF _ rfl rfl (qAM (by rw [qBP,decide_eq_false (by omega)];rfl))
 have h1:¬ ((l.map Cs.cells).length:Int)<1:=h1
 rw [hm] at h1
 (first | refine qAP (fun h2=>?_) (fun h2=>?_) | refine qAQ (fun h2=>?_) (fun h2=>?_) | refine qAR (fun h2=>?_) (fun h2=>?_))
 ·have h2:(12:Int)<((l.map Cs.cells).length:Nat):=h2
  rw [hm] at h2
  exact qAF _ rfl rfl (qAM (by rw [qBP,decide_eq_false (show ¬ l.length≤12 by omega),Bool.and_false];rfl))
 have h2:¬ (12:Int)<((l.map Cs.cells).length:Nat):=h2
 rw [hm] at h2
 have hB0:qBP l=qB2 (l.drop 0):=by rw [qBP,decide_eq_true (show 1≤l.length by omega),decide_eq_true (show l.length≤12 by omega)];rfl
 refine⟨Nat,fun i=>[(0, .p (css l)),(3, .p (i64 i))],fun _=>⟨0,[]⟩,fun i=>i≤l.length∧qBP l=qB2 (l.drop i),fun i=>l.length - i,?_,?_⟩
 ·exact⟨0,⟨Nat.zero_le _,hB0⟩,qB1 rfl ⟨rfl,rfl,trivial⟩ trivial rfl⟩
 rintro i ⟨i0,i2⟩
 clear hB0
 (first | refine qAP (fun j1=>?_) (fun j1=>?_) | refine qAQ (fun j1=>?_) (fun j1=>?_) | refine qAR (fun j1=>?_) (fun j1=>?_))
 rotate_left
 ·have j1:¬ (i:Int)<((l.map Cs.cells).length:Nat):=j1
  rw [hm] at j1
  rw [List.drop_eq_nil_of_le (by omega),qB2] at i2
  exact qAF _ rfl rfl (qAM i2.symm)
 have j1:(i:Int)<((l.map Cs.cells).length:Nat):=j1
 rw [hm] at j1
 have i1:i<l.length:=by omega
 have hmem:=qAK cs0 i1
 have hbc:=hb.cond _ hmem
 have hbn:=hb.nums _ hmem
 have hcell:=qNz i1
 have hstep:=fun h=>qDy (l:=l) (i:=i) h
 have hlast:=fun h=>qDz (l:=l) (i:=i) h
 rcases hx:l.getD i cs0 with ⟨⟨op,n,rel,val,r,st,ar⟩,nums⟩
 rw [hx] at hbc hbn hcell hstep hlast
 simp only [] at hbc hbn hstep hlast
 have hno:qCU nums=false→qBP l=false:=fun h=>by
  rw [i2]
  rcases Nat.lt_or_ge (i+1) l.length with h3 | h3
  ·rw [hstep h3,h];rfl
  ·rw [hlast (by omega),h];rfl
 have hnm:(nums.map i64).length=nums.length:=List.length_map ..
 refine⟨_,⟨by omega,(⟨.mk op n rel val r st ar,nums⟩:Cs).cells,hcell,rfl⟩,?_⟩
 (first | refine qAP (fun j2=>?_) (fun j2=>?_) | refine qAQ (fun j2=>?_) (fun j2=>?_) | refine qAR (fun j2=>?_) (fun j2=>?_))
 ·have j2:((nums.map i64).length:Int)<1:=j2
  rw [hnm] at j2
  exact qAF _ rfl rfl (qAM (hno (by rw [qCU,decide_eq_false (by omega)];rfl)).symm)
 have j2:¬ ((nums.map i64).length:Int)<1:=j2
 rw [hnm] at j2
 refine⟨_,⟨by omega,(⟨.mk op n rel val r st ar,nums⟩:Cs).cells,hcell,rfl⟩,?_⟩
 (first | refine qAP (fun j3=>?_) (fun j3=>?_) | refine qAQ (fun j3=>?_) (fun j3=>?_) | refine qAR (fun j3=>?_) (fun j3=>?_))
 ·have j3:(8:Int)<((nums.map i64).length:Nat):=j3
  rw [hnm] at j3
  exact qAF _ rfl rfl (qAM (hno (by rw [qCU,decide_eq_false (show ¬ nums.length≤8 by omega),Bool.and_false];rfl)).symm)
 have j3:¬ (8:Int)<((nums.map i64).length:Nat):=j3
 rw [hnm] at j3
 refine⟨Nat,fun k=>[(0, .p (css l)),(3, .p (i64 i)),(4, .p (i64 k))],fun _=>⟨0,[]⟩,fun k=>k≤nums.length∧∀ x∈nums.take k,qFy x=true,fun k=>nums.length - k,?_,?_⟩
 ·exact⟨0,⟨Nat.zero_le _,by simp⟩,qB1 rfl ⟨rfl,rfl,rfl,trivial⟩ trivial rfl⟩
 rintro k ⟨k1,k2⟩
 refine⟨_,⟨by omega,(⟨.mk op n rel val r st ar,nums⟩:Cs).cells,hcell,rfl⟩,?_⟩
 (first | refine qAP (fun m1=>?_) (fun m1=>?_) | refine qAQ (fun m1=>?_) (fun m1=>?_) | refine qAR (fun m1=>?_) (fun m1=>?_))
 ·have m1:(k:Int)<((nums.map i64).length:Nat):=m1
  rw [hnm] at m1
  have hk:k<nums.length:=by omega
  have bad:qFy (nums.getD k 0)=false→qBP l=false:=fun h=>hno (by rw [qCU,qKw 0 hk h,Bool.and_false])
  refine⟨_,⟨by omega,(⟨.mk op n rel val r st ar,nums⟩:Cs).cells,hcell,rfl⟩,?_⟩
  refine⟨_,⟨by omega,i64 (nums.getD k 0),qED hk,rfl⟩,?_⟩
  (first | refine qAP (fun m2=>?_) (fun m2=>?_) | refine qAQ (fun m2=>?_) (fun m2=>?_) | refine qAR (fun m2=>?_) (fun m2=>?_))
  ·have m2:nums.getD k 0 < -9999:=m2
   exact qAF _ rfl rfl (qAM (bad (by rw [qFy,decide_eq_false (by omega)];rfl)).symm)
  have m2:¬ nums.getD k 0 < -9999:=m2
  refine⟨_,⟨by omega,(⟨.mk op n rel val r st ar,nums⟩:Cs).cells,hcell,rfl⟩,?_⟩
  refine⟨_,⟨by omega,i64 (nums.getD k 0),qED hk,rfl⟩,?_⟩
  (first | refine qAP (fun m3=>?_) (fun m3=>?_) | refine qAQ (fun m3=>?_) (fun m3=>?_) | refine qAR (fun m3=>?_) (fun m3=>?_))
  ·have m3:(9999:Int)<nums.getD k 0:=m3
   exact qAF _ rfl rfl (qAM (bad (by rw [qFy,decide_eq_false (show ¬ nums.getD k 0≤9999 by omega),Bool.and_false])).symm)
  have m3:¬ (9999:Int)<nums.getD k 0:=m3
  refine⟨_,w6z,?_⟩
  refine⟨k+1,⟨by omega,fun x hx=>?_⟩,qB1 rfl ⟨rfl,rfl,rfl,trivial⟩ trivial rfl,by show nums.length - (k+1)<nums.length - k;omega⟩
  rw [qAW 0 hk] at hx
  rcases List.mem_append.1 hx with hx | hx
  ·exact k2 x hx
  ·rw [List.mem_singleton.1 hx,qFy,decide_eq_true (by omega),decide_eq_true (by omega)];rfl
 have m1:¬ (k:Int)<((nums.map i64).length:Nat):=m1
 rw [hnm] at m1
 have hnums:qCU nums=true:=by
  have:nums.all qFy=true:=by
   rw [List.all_eq_true]
   rw [qBY (by omega)] at k2
   exact k2
  rw [qCU,this,decide_eq_true (by omega),decide_eq_true (by omega)];rfl
 refine⟨((l.length - 1:Nat):Int),by show _=IntKind.i64.wrap (((l.map Cs.cells).length:Int) - 1);rw [hm,show(l.length:Int) - 1=((l.length - 1:Nat):Int) by omega];exact w6z,?_⟩
 (first | refine qAP (fun m4=>?_) (fun m4=>?_) | refine qAQ (fun m4=>?_) (fun m4=>?_) | refine qAR (fun m4=>?_) (fun m4=>?_))
 ·have m4:(i:Int)=((l.length - 1:Nat):Int):=m4
  have hT:=hlast (by omega)
  rw [← i2,hnums,Bool.true_and] at hT
  simp only [qDk] at hbc
  have hP:=qVa op n rel val r st ar hbc.2.1 hbc.2.2.1
  refine⟨_,⟨by omega,(⟨.mk op n rel val r st ar,nums⟩:Cs).cells,hcell,rfl⟩,?_⟩
  rw [← hT] at hP
  by_cases p2:qBP l=true
  rotate_left
  ·rw [Bool.not_eq_true] at p2
   rw [p2] at hP
   refine hP.eq rfl ?_
   exact qAF _ rfl rfl (qAM p2.symm)
  rw [p2] at hP
  refine hP.eq rfl ?_
  refine⟨_,w6z,?_⟩
  exact⟨i+1,⟨by omega,by rw [p2,List.drop_eq_nil_of_le (by omega)];rfl⟩,qB1 rfl ⟨rfl,rfl,trivial⟩ trivial rfl,by show l.length - (i+1)<l.length - i;omega⟩
 have m4:¬ (i:Int)=((l.length - 1:Nat):Int):=m4
 have hT:=hstep (by omega)
 rw [← i2,hnums,Bool.true_and] at hT
 have hC:=qKk 8 (Nat.le_refl _) (.mk op n rel val r st ar) 30 1 hbc (by omega) (by omega)
 refine⟨_,⟨by omega,(⟨.mk op n rel val r st ar,nums⟩:Cs).cells,hcell,rfl⟩,?_⟩
 rcases hv:qAn 8 (.mk op n rel val r st ar) 30 with _ | k2
 ·rw [hv] at hC hT
  refine hC.eq rfl ?_
  refine And.intro (fun _=>?_) (fun h=>absurd (show(-1:Int)<0 by decide) h)
  exact qAF _ rfl rfl (qAM (by rw [hT];rfl))
 ·rw [hv] at hC hT
  refine hC.eq rfl ?_
  refine And.intro (fun h=>absurd (show(k2:Int)<0 from h) (by omega)) (fun _=>?_)
  refine⟨_,w6z,?_⟩
  exact⟨i+1,⟨by omega,by rw [hT];rfl⟩,qB1 rfl ⟨rfl,rfl,trivial⟩ trivial rfl,by show l.length - (i+1)<l.length - i;omega⟩
theorem qTY (l:List Rf) (hl:l.length≤9223372036854775807) (hb:∀ r∈l,BigR r):Pure cx 117 [qBu l] (·=.ret [.bool (decide (l.length≤8) && l.all qBk)]):=by
 refine qAB Tryz.func117 rfl rfl rfl ?_
 have hm:(l.map Rf.cells).length=l.length:=List.length_map ..
 refine⟨Nat,fun k=>[(0, .p (qBu l)),(3, .p (i64 k))],fun _=>⟨0,[]⟩,fun k=>k≤l.length∧∀ x∈l.take k,qBk x=true,fun k=>l.length - k,?_,?_⟩
 ·exact⟨0,⟨Nat.zero_le _,by simp⟩,qB1 rfl ⟨rfl,rfl,trivial⟩ trivial rfl⟩
 rintro k ⟨k1,k2⟩
 (first | refine qAP (fun m1=>?_) (fun m1=>?_) | refine qAQ (fun m1=>?_) (fun m1=>?_) | refine qAR (fun m1=>?_) (fun m1=>?_))
 ·have m1:(k:Int)<((l.map Rf.cells).length:Nat):=m1
  rw [hm] at m1
  have hk:k<l.length:=by omega
  refine⟨_,⟨by omega,(l.getD k rf0).cells,qJP hk,rfl⟩,?_⟩
  have hR:=qSj (l.getD k rf0) (hb _ (qAK rf0 hk))
  by_cases r1:qBk (l.getD k rf0)=true
  rotate_left
  ·rw [Bool.not_eq_true] at r1
   rw [r1] at hR
   refine hR.eq rfl ?_
   exact qAF _ rfl rfl (qAM (by rw [qKw rf0 hk r1,Bool.and_false]))
  rw [r1] at hR
  refine hR.eq rfl ?_
  refine⟨_,w6z,?_⟩
  refine⟨k+1,⟨by omega,fun x hx=>?_⟩,qB1 rfl ⟨rfl,rfl,trivial⟩ trivial rfl,by show l.length - (k+1)<l.length - k;omega⟩
  rw [qAW rf0 hk] at hx
  rcases List.mem_append.1 hx with hx | hx
  ·exact k2 x hx
  ·rw [List.mem_singleton.1 hx];exact r1
 have m1:¬ (k:Int)<((l.map Rf.cells).length:Nat):=m1
 rw [hm] at m1
 rw [qBY (by omega)] at k2
 have ha:l.all qBk=true:=List.all_eq_true.2 k2
 (first | refine qAP (fun m2=>?_) (fun m2=>?_) | refine qAQ (fun m2=>?_) (fun m2=>?_) | refine qAR (fun m2=>?_) (fun m2=>?_))
 ·have m2:((l.map Rf.cells).length:Int)≤8:=m2
  rw [hm] at m2
  exact qAF _ rfl rfl (qAM (by rw [ha,decide_eq_true (by omega)];rfl))
 ·have m2:¬ ((l.map Rf.cells).length:Int)≤8:=m2
  rw [hm] at m2
  exact qAF _ rfl rfl (qAM (by rw [decide_eq_false (by omega)];rfl))
theorem qTh (d:De) (hb:BigD d):Pure cx 74 [d.pv] (·=.ret [.bool (qBj d)]):=by
 refine qAB Tryz.func74 rfl rfl rfl ?_
 have hN:=qEI d.n
 have hF:=qTY d.refs hb.len hb.refs
 have hI:=qHS d.name hb.name
 have hJ:=qHS d.plate hb.plate
 have hC:=qRp d.cases hb.cases
 have hrl:=hb.len
 have hcl:=hb.cases.len
 clear hb
 by_cases n1:qBh d.n=true
 rotate_left
 ·rw [Bool.not_eq_true] at n1
  rw [n1] at hN
  refine hN.eq rfl ?_
  exact qAF _ rfl rfl (qAM (by rw [qBj,n1];rfl))
 rw [n1] at hN
 refine hN.eq rfl ?_
 by_cases n2:(decide (d.refs.length≤8) && d.refs.all qBk)=true
 rotate_left
 ·rw [Bool.not_eq_true] at n2
  rw [n2] at hF
  refine hF.eq rfl ?_
  exact qAF _ rfl rfl (qAM (by rw [qBj,n1,Bool.true_and,n2];rfl))
 rw [n2] at hF
 refine hF.eq rfl ?_
 have hfin:qBj d=qAx d:=by rw [qBj,n1,Bool.true_and,n2];rfl
 clear hF hN n1 n2
 refine And.intro (fun q1=>?_) (fun q1=>?_)
 ·have q1:d.plate=[]:=q1
  by_cases p1:qAp d.name=true
  rotate_left
  ·have p1':=p1
   rw [Bool.not_eq_true] at p1
   rw [p1] at hI
   refine hI.eq rfl ?_
   (first | refine qAP (fun o1=>?_) (fun o1=>?_) | refine qAQ (fun o1=>?_) (fun o1=>?_) | refine qAR (fun o1=>?_) (fun o1=>?_))
   ·have o1:d.kind=1:=o1
    (first | refine qAP (fun p2=>?_) (fun p2=>?_) | refine qAQ (fun p2=>?_) (fun p2=>?_) | refine qAR (fun p2=>?_) (fun p2=>?_))
    rotate_left
    ·have p2:¬ d.name=[]:=p2
     exact qAF _ rfl rfl (qAM (by simp [qAx, *]))
    have p2:d.name=[]:=p2
    (first | refine qAP (fun p3=>?_) (fun p3=>?_) | refine qAQ (fun p3=>?_) (fun p3=>?_) | refine qAR (fun p3=>?_) (fun p3=>?_))
    rotate_left
    ·have p3:¬ ((d.refs.map Rf.cells).length:Int)=0:=p3
     have p3:¬ d.refs=[]:=fun e=>p3 (by rw [e];rfl)
     exact qAF _ rfl rfl (qAM (by simp [qAx, *]))
    have p3:((d.refs.map Rf.cells).length:Int)=0:=p3
    have p3:d.refs=[]:=by rw [List.length_map] at p3;exact List.length_eq_zero_iff.1 (by omega)
    (first | refine qAP (fun p4=>?_) (fun p4=>?_) | refine qAQ (fun p4=>?_) (fun p4=>?_) | refine qAR (fun p4=>?_) (fun p4=>?_))
    rotate_left
    ·have p4:¬ ((d.cases.map Cs.cells).length:Int)=0:=p4
     have p4:¬ d.cases=[]:=fun e=>p4 (by rw [e];rfl)
     exact qAF _ rfl rfl (qAM (by simp [qAx, *]))
    have p4:((d.cases.map Cs.cells).length:Int)=0:=p4
    have p4:d.cases=[]:=by rw [List.length_map] at p4;exact List.length_eq_zero_iff.1 (by omega)
    exact qAF _ rfl rfl (qAM (by simp [qAx, *]))
   have o1:¬ d.kind=1:=o1
   (first | refine qAP (fun o2=>?_) (fun o2=>?_) | refine qAQ (fun o2=>?_) (fun o2=>?_) | refine qAR (fun o2=>?_) (fun o2=>?_))
   ·have o2:d.kind=2:=o2
    exact qAF _ rfl rfl (qAM (by simp [qAx, *]))
   have o2:¬ d.kind=2:=o2
   (first | refine qAP (fun o3=>?_) (fun o3=>?_) | refine qAQ (fun o3=>?_) (fun o3=>?_) | refine qAR (fun o3=>?_) (fun o3=>?_))
   ·have o3:d.kind=3:=o3
    exact qAF _ rfl rfl (qAM (by simp [qAx, *]))
   have o3:¬ d.kind=3:=o3
   (first | refine qAP (fun o4=>?_) (fun o4=>?_) | refine qAQ (fun o4=>?_) (fun o4=>?_) | refine qAR (fun o4=>?_) (fun o4=>?_))
   ·have o4:d.kind=4:=o4
    exact qAF _ rfl rfl (qAM (by simp [qAx, *]))
   have o4:¬ d.kind=4:=o4
   (first | refine qAP (fun o5=>?_) (fun o5=>?_) | refine qAQ (fun o5=>?_) (fun o5=>?_) | refine qAR (fun o5=>?_) (fun o5=>?_))
   ·have o5:d.kind=5:=o5
    (first | refine qAP (fun p2=>?_) (fun p2=>?_) | refine qAQ (fun p2=>?_) (fun p2=>?_) | refine qAR (fun p2=>?_) (fun p2=>?_))
    rotate_left
    ·have p2:¬ d.name=[]:=p2
     exact qAF _ rfl rfl (qAM (by simp [qAx, *]))
    have p2:d.name=[]:=p2
    (first | refine qAP (fun p3=>?_) (fun p3=>?_) | refine qAQ (fun p3=>?_) (fun p3=>?_) | refine qAR (fun p3=>?_) (fun p3=>?_))
    rotate_left
    ·have p3:¬ d.n=0:=p3
     exact qAF _ rfl rfl (qAM (by simp [qAx, *]))
    have p3:d.n=0:=p3
    refine hC.eq rfl ?_
    exact qAF _ rfl rfl (qAM (by simp [qAx, *]))
   have o5:¬ d.kind=5:=o5
   exact qAF _ rfl rfl (qAM (by simp [qAx, *]))
  rw [p1] at hI
  refine hI.eq rfl ?_
  (first | refine qAP (fun o1=>?_) (fun o1=>?_) | refine qAQ (fun o1=>?_) (fun o1=>?_) | refine qAR (fun o1=>?_) (fun o1=>?_))
  ·have o1:d.kind=1:=o1
   (first | refine qAP (fun p2=>?_) (fun p2=>?_) | refine qAQ (fun p2=>?_) (fun p2=>?_) | refine qAR (fun p2=>?_) (fun p2=>?_))
   rotate_left
   ·have p2:¬ d.name=[]:=p2
    exact qAF _ rfl rfl (qAM (by simp [qAx, *]))
   have p2:d.name=[]:=p2
   (first | refine qAP (fun p3=>?_) (fun p3=>?_) | refine qAQ (fun p3=>?_) (fun p3=>?_) | refine qAR (fun p3=>?_) (fun p3=>?_))
   rotate_left
   ·have p3:¬ ((d.refs.map Rf.cells).length:Int)=0:=p3
    have p3:¬ d.refs=[]:=fun e=>p3 (by rw [e];rfl)
    exact qAF _ rfl rfl (qAM (by simp [qAx, *]))
   have p3:((d.refs.map Rf.cells).length:Int)=0:=p3
   have p3:d.refs=[]:=by rw [List.length_map] at p3;exact List.length_eq_zero_iff.1 (by omega)
   (first | refine qAP (fun p4=>?_) (fun p4=>?_) | refine qAQ (fun p4=>?_) (fun p4=>?_) | refine qAR (fun p4=>?_) (fun p4=>?_))
   rotate_left
   ·have p4:¬ ((d.cases.map Cs.cells).length:Int)=0:=p4
    have p4:¬ d.cases=[]:=fun e=>p4 (by rw [e];rfl)
    exact qAF _ rfl rfl (qAM (by simp [qAx, *]))
   have p4:((d.cases.map Cs.cells).length:Int)=0:=p4
   have p4:d.cases=[]:=by rw [List.length_map] at p4;exact List.length_eq_zero_iff.1 (by omega)
   exact qAF _ rfl rfl (qAM (by simp [qAx, *]))
  have o1:¬ d.kind=1:=o1
  (first | refine qAP (fun o2=>?_) (fun o2=>?_) | refine qAQ (fun o2=>?_) (fun o2=>?_) | refine qAR (fun o2=>?_) (fun o2=>?_))
  ·have o2:d.kind=2:=o2
   (first | refine qAP (fun p3=>?_) (fun p3=>?_) | refine qAQ (fun p3=>?_) (fun p3=>?_) | refine qAR (fun p3=>?_) (fun p3=>?_))
   rotate_left
   ·have p3:¬ ((d.refs.map Rf.cells).length:Int)=0:=p3
    have p3:¬ d.refs=[]:=fun e=>p3 (by rw [e];rfl)
    exact qAF _ rfl rfl (qAM (by simp [qAx, *]))
   have p3:((d.refs.map Rf.cells).length:Int)=0:=p3
   have p3:d.refs=[]:=by rw [List.length_map] at p3;exact List.length_eq_zero_iff.1 (by omega)
   (first | refine qAP (fun p4=>?_) (fun p4=>?_) | refine qAQ (fun p4=>?_) (fun p4=>?_) | refine qAR (fun p4=>?_) (fun p4=>?_))
   rotate_left
   ·have p4:¬ ((d.cases.map Cs.cells).length:Int)=0:=p4
    have p4:¬ d.cases=[]:=fun e=>p4 (by rw [e];rfl)
    exact qAF _ rfl rfl (qAM (by simp [qAx, *]))
   have p4:((d.cases.map Cs.cells).length:Int)=0:=p4
   have p4:d.cases=[]:=by rw [List.length_map] at p4;exact List.length_eq_zero_iff.1 (by omega)
   exact qAF _ rfl rfl (qAM (by simp [qAx, *]))
  have o2:¬ d.kind=2:=o2
  (first | refine qAP (fun o3=>?_) (fun o3=>?_) | refine qAQ (fun o3=>?_) (fun o3=>?_) | refine qAR (fun o3=>?_) (fun o3=>?_))
  ·have o3:d.kind=3:=o3
   refine hC.eq rfl ?_
   exact qAF _ rfl rfl (qAM (by simp [qAx, *]))
  have o3:¬ d.kind=3:=o3
  (first | refine qAP (fun o4=>?_) (fun o4=>?_) | refine qAQ (fun o4=>?_) (fun o4=>?_) | refine qAR (fun o4=>?_) (fun o4=>?_))
  ·have o4:d.kind=4:=o4
   (first | refine qAP (fun p4=>?_) (fun p4=>?_) | refine qAQ (fun p4=>?_) (fun p4=>?_) | refine qAR (fun p4=>?_) (fun p4=>?_))
   rotate_left
   ·have p4:¬ ((d.cases.map Cs.cells).length:Int)=0:=p4
    have p4:¬ d.cases=[]:=fun e=>p4 (by rw [e];rfl)
    exact qAF _ rfl rfl (qAM (by simp [qAx, *]))
   have p4:((d.cases.map Cs.cells).length:Int)=0:=p4
   have p4:d.cases=[]:=by rw [List.length_map] at p4;exact List.length_eq_zero_iff.1 (by omega)
   exact qAF _ rfl rfl (qAM (by simp [qAx, *]))
  have o4:¬ d.kind=4:=o4
  (first | refine qAP (fun o5=>?_) (fun o5=>?_) | refine qAQ (fun o5=>?_) (fun o5=>?_) | refine qAR (fun o5=>?_) (fun o5=>?_))
  ·have o5:d.kind=5:=o5
   (first | refine qAP (fun p2=>?_) (fun p2=>?_) | refine qAQ (fun p2=>?_) (fun p2=>?_) | refine qAR (fun p2=>?_) (fun p2=>?_))
   rotate_left
   ·have p2:¬ d.name=[]:=p2
    exact qAF _ rfl rfl (qAM (by simp [qAx, *]))
   have p2:d.name=[]:=p2
   (first | refine qAP (fun p3=>?_) (fun p3=>?_) | refine qAQ (fun p3=>?_) (fun p3=>?_) | refine qAR (fun p3=>?_) (fun p3=>?_))
   rotate_left
   ·have p3:¬ d.n=0:=p3
    exact qAF _ rfl rfl (qAM (by simp [qAx, *]))
   have p3:d.n=0:=p3
   refine hC.eq rfl ?_
   exact qAF _ rfl rfl (qAM (by simp [qAx, *]))
  have o5:¬ d.kind=5:=o5
  exact qAF _ rfl rfl (qAM (by simp [qAx, *]))
 have q1:¬ d.plate=[]:=q1
 refine And.intro (fun q2=>?_) (fun q2=>?_)
 rotate_left
 ·have q2:¬ d.kind=3:=q2
  exact qAF _ rfl rfl (qAM (by simp [qAx, *]))
 have q2:d.kind=3:=q2
 by_cases q3:qAp d.plate=true
 rotate_left
 ·rw [Bool.not_eq_true] at q3
  rw [q3] at hJ
  refine hJ.eq rfl ?_
  exact qAF _ rfl rfl (qAM (by simp [qAx, *]))
 rw [q3] at hJ
 refine hJ.eq rfl ?_
 by_cases p1:qAp d.name=true
 rotate_left
 ·rw [Bool.not_eq_true] at p1
  rw [p1] at hI
  refine hI.eq rfl ?_
  refine And.intro (fun h=>absurd (show d.kind=1 from h) (by omega)) (fun _=>?_)
  refine And.intro (fun h=>absurd (show d.kind=2 from h) (by omega)) (fun _=>?_)
  refine And.intro (fun _=>?_) (fun h=>absurd q2 h)
  exact qAF _ rfl rfl (qAM (by simp [qAx, *]))
 rw [p1] at hI
 refine hI.eq rfl ?_
 refine And.intro (fun h=>absurd (show d.kind=1 from h) (by omega)) (fun _=>?_)
 refine And.intro (fun h=>absurd (show d.kind=2 from h) (by omega)) (fun _=>?_)
 refine And.intro (fun _=>?_) (fun h=>absurd q2 h)
 refine hC.eq rfl ?_
 exact qAF _ rfl rfl (qAM (by simp [qAx, *]))
theorem qWi (ds:List De) (hb:BigP ds):Pure cx 46 [qEo ds] (·=.ret [.bool (qBg ds)]):=by
 refine qAB Tryz.func46 rfl rfl rfl ?_
 have hl:=hb.len
 have hm:(ds.map De.cells).length=ds.length:=List.length_map ..
 have hfin:∀ k,k≤ds.length→(30<k∨k=ds.length)→(∀ x∈ds.take k,qBj x=true)→qBg ds=decide (ds.length≤30):=fun k h1 h2 h3=>by
  rcases h2 with h2 | h2
  ·rw [qBg,decide_eq_false (show ¬ ds.length≤30 by omega)];rfl
  ·rw [qBY (by omega)] at h3
   rw [qBg,List.all_eq_true.2 h3,Bool.and_true]
 refine⟨Nat,fun k=>[(1, .ptr 0 0 0),(3, .p (i64 k))],fun _=>⟨1,[(0,srO (.p (des ds)))]⟩,fun k=>k≤ds.length∧k≤31∧∀ x∈ds.take k,qBj x=true,fun k=>ds.length - k,?_,?_⟩
 ·exact⟨0,⟨Nat.zero_le _,by omega,by simp⟩,qAC [] [] [] rfl (sk) (sk) rfl⟩
 rintro k ⟨k1,k3,k2⟩
 (first | refine qAP (fun m1=>?_) (fun m1=>?_) | refine qAQ (fun m1=>?_) (fun m1=>?_) | refine qAR (fun m1=>?_) (fun m1=>?_))
 ·have m1:(k:Int)<((ds.map De.cells).length:Nat):=m1
  rw [hm] at m1
  have hk:k<ds.length:=by omega
  (first | refine qAP (fun m2=>?_) (fun m2=>?_) | refine qAQ (fun m2=>?_) (fun m2=>?_) | refine qAR (fun m2=>?_) (fun m2=>?_))
  ·have m2:(k:Int)≤30:=m2
   refine⟨_,⟨by omega,(ds.getD k de0).cells,qIv hk,rfl⟩,?_⟩
   have hR:=qTh (ds.getD k de0) (hb.decl _ (qAK de0 hk))
   by_cases r1:qBj (ds.getD k de0)=true
   rotate_left
   ·rw [Bool.not_eq_true] at r1
    rw [r1] at hR
    refine hR.eq rfl ?_
    exact qAF _ rfl rfl (qAM (by rw [qBg,qKw de0 hk r1,Bool.and_false]))
   rw [r1] at hR
   refine hR.eq rfl ?_
   refine⟨_,w6z,?_⟩
   refine⟨k+1,⟨by omega,by omega,fun x hx=>?_⟩,qAC [] [] [] rfl (sk) (sk) rfl,by show ds.length - (k+1)<ds.length - k;omega⟩
   rw [qAW de0 hk] at hx
   rcases List.mem_append.1 hx with hx | hx
   ·exact k2 x hx
   ·rw [List.mem_singleton.1 hx];exact r1
  ·have m2:¬ (k:Int)≤30:=m2
   refine And.intro (fun h=>?_) (fun h=>?_)
   ·have h:((ds.map De.cells).length:Int)≤30:=h
    rw [hm] at h
    omega
   ·exact qAF _ rfl rfl (qAM (by rw [hfin k k1 (.inl (by omega)) k2,decide_eq_false (by omega)]))
 ·have m1:¬ (k:Int)<((ds.map De.cells).length:Nat):=m1
  rw [hm] at m1
  refine And.intro (fun h=>?_) (fun h=>?_)
  ·have h:((ds.map De.cells).length:Int)≤30:=h
   rw [hm] at h
   exact qAF _ rfl rfl (qAM (by rw [hfin k k1 (.inr (by omega)) k2,decide_eq_true (by omega)]))
  ·have h:¬ ((ds.map De.cells).length:Int)≤30:=h
   rw [hm] at h
   exact qAF _ rfl rfl (qAM (by rw [hfin k k1 (.inr (by omega)) k2,decide_eq_false (by omega)]))
noncomputable def cb (p:Prop):Bool:=@decide p (Classical.propDecidable p)
theorem qRM {p:Prop} (h:p):cb p=true:=by unfold cb;exact @decide_eq_true p (Classical.propDecidable p) h
theorem qGv {p:Prop} (h:¬ p):cb p=false:=by unfold cb;exact @decide_eq_false p (Classical.propDecidable p) h
theorem qEF {α:Type} {a b:List α} {k:Nat} (d:α) (ha:k<a.length) (hb:k<b.length) (h:a.take k=b.take k) (he:a.getD k d=b.getD k d):a.take (k+1)=b.take (k+1):=by
 rw [qAW d ha,qAW d hb,h,he]
theorem qFV {α:Type} {a b:List α} {k:Nat} (hl:a.length=b.length) (hk:¬ k<a.length) (h:a.take k=b.take k):a=b:=by
 rw [qBY (by omega),qBY (by omega)] at h;exact h
theorem qO9 (a b:List Int) (_ha:a.length≤9223372036854775807) (hb:b.length≤9223372036854775807):Pure cx 58 [ints a,ints b] (·=.ret [.bool (cb (a=b))]):=by
 have ha':(a.map i64).length=a.length:=List.length_map ..
 have hb':(b.map i64).length=b.length:=List.length_map ..
 refine qAB Tryz.func58 rfl rfl rfl ?_
 refine And.intro (fun h1=>?_) (fun h1=>?_)
 rotate_left
 ·have h1:¬ ((a.map i64).length:Int)=((b.map i64).length:Nat):=h1
  rw [ha',hb'] at h1
  exact qAF _ rfl rfl (by rw [qGv (fun e=>h1 (by rw [e]))])
 have h1:((a.map i64).length:Int)=((b.map i64).length:Nat):=h1
 rw [ha',hb'] at h1
 have hl:a.length=b.length:=by omega
 refine⟨Nat,fun k=>[(0, .p (ints a)),(1, .p (ints b)),(5, .p (i64 k))],fun _=>⟨0,[]⟩,fun k=>k≤a.length∧a.take k=b.take k,fun k=>a.length - k,?_,?_⟩
 ·exact⟨0,⟨Nat.zero_le _,rfl⟩,qAC [] [] [] rfl (sk) (sk) rfl⟩
 rintro k ⟨k1,k2⟩
 refine And.intro (fun m1=>?_) (fun m1=>?_)
 rotate_left
 ·have m1:¬ (k:Int)<((a.map i64).length:Nat):=m1
  rw [ha'] at m1
  exact qAF _ rfl rfl (by rw [qRM (qFV hl (by omega) k2)])
 have m1:(k:Int)<((a.map i64).length:Nat):=m1
 rw [ha'] at m1
 have hk:k<a.length:=by omega
 refine VDraw.seq rfl ?_
 refine⟨_,⟨by omega,i64 (a.getD k 0),qED hk,rfl⟩,?_⟩
 refine⟨_,⟨by omega,i64 (b.getD k 0),qED (by omega),rfl⟩,?_⟩
 refine And.intro (fun m2=>?_) (fun m2=>?_)
 ·have m2:a.getD k 0=b.getD k 0:=m2
  refine⟨_,w6z,?_⟩
  exact⟨k+1,⟨hk,qEF 0 hk (by omega) k2 m2⟩,qAC [] [] [] rfl (sk) (sk) rfl,by show a.length - (k+1)<a.length - k;omega⟩
 ·have m2:¬ a.getD k 0=b.getD k 0:=m2
  exact qAF _ rfl rfl (by rw [qGv (fun e=>m2 (by rw [e]))])
mutual
def csz:Cd→Nat
 | .mk _ _ _ _ _ _ ar=>qWW ar+1
def qWW:List Cd→Nat
 | []=>0
 | c::r=>csz c+qWW r
end
theorem qQm:∀ {l:List Cd} {c:Cd},c∈l→csz c≤qWW l
 | [],_,h=>by simp at h
 | x::l,c,h=>by
  rw [qWW]
  rcases List.mem_cons.1 h with rfl | h
  ·omega
  ·have:=qQm h;omega
theorem qSk {a b:Rf} (h:a.cells=b.cells):a=b:=by
 obtain⟨n,m,p,k⟩:=a
 obtain⟨n',m',p',k'⟩:=b
 injection h with h1 h
 injection h with h2 h
 injection h with h3 h
 injection h with h4 h
 injection h1 with h1
 injection h2 with _ h2
 injection h3 with h3
 injection h4 with _ h4
 subst h1 h2 h3 h4
 rfl
def qXD (n:Nat):Prop:=∀ a b:Cd,csz a≤n→qDk a→qDk b→Pure cx 57 [a.pv,b.pv] (·=.ret [.bool (cb (a=b))])
theorem qJt {o n r v o' n' r' v':Int} {rf rf':Rf} {st st':List Int} {ar ar':List Cd}:(Cd.mk o n r v rf st ar=.mk o' n' r' v' rf' st' ar') ↔ (o=o'∧n=n'∧r=r'∧v=v'∧rf=rf'∧st=st'∧ar=ar'):=by
 constructor
 ·intro h;injection h with h1 h2 h3 h4 h5 h6 h7;exact⟨h1,h2,h3,h4,h5,h6,h7⟩
 ·rintro⟨rfl,rfl,rfl,rfl,rfl,rfl,rfl⟩;rfl
theorem qPE (m:Nat) (ih:qXD m):qXD (m+1):=by
 intro a b hz hA hB
 obtain⟨o,n,r,v,rf,st,ar⟩:=a
 obtain⟨o',n',r',v',rf',st',ar'⟩:=b
 have hA1:=hA
 have hB1:=hB
 rw [qDk] at hA1 hB1
 obtain⟨_,a2,a3,a4⟩:=hA1
 obtain⟨_,b2,b3,b4⟩:=hB1
 have hI:=qO9 st st' a2 b2
 have hla:(qBS ar).length=ar.length:=by rw [qB0,List.length_map]
 have hlb:(qBS ar').length=ar'.length:=by rw [qB0,List.length_map]
 rw [csz] at hz
 refine qAB Tryz.func57 rfl rfl rfl ?_
 refine And.intro (fun h1=>?_) (fun h1=>qAF _ rfl rfl (by rw [qGv (fun e=>h1 (qJt.1 e).1)]))
 have h1:o=o':=h1
 refine And.intro (fun h2=>?_) (fun h2=>qAF _ rfl rfl (by rw [qGv (fun e=>h2 (qJt.1 e).2.1)]))
 have h2:n=n':=h2
 refine And.intro (fun h3=>?_) (fun h3=>qAF _ rfl rfl (by rw [qGv (fun e=>h3 (qJt.1 e).2.2.1)]))
 have h3:r=r':=h3
 refine And.intro (fun h4=>?_) (fun h4=>qAF _ rfl rfl (by rw [qGv (fun e=>h4 (qJt.1 e).2.2.2.1)]))
 have h4:v=v':=h4
 refine⟨⟨by kernel_rfl,by kernel_rfl⟩,fun h5=>?_,fun h5=>?_⟩
 rotate_left
 ·exact qAF _ rfl rfl (by rw [qGv (fun e=>h5 (by rw [(qJt.1 e).2.2.2.2.1]))])
 have h5:rf=rf':=qSk (by first | exact h5 | (injection h5))
 by_cases h6:st=st'
 rotate_left
 ·rw [qGv h6] at hI
  refine hI.eq rfl ?_
  exact qAF _ rfl rfl (by rw [qGv (fun e=>h6 (qJt.1 e).2.2.2.2.2.1)])
 rw [qRM h6] at hI
 refine hI.eq rfl ?_
 refine And.intro (fun h7=>?_) (fun h7=>?_)
 rotate_left
 ·have h7:¬ ((qBS ar).length:Int)=((qBS ar').length:Nat):=h7
  rw [hla,hlb] at h7
  exact qAF _ rfl rfl (by rw [qGv (fun e=>h7 (by rw [(qJt.1 e).2.2.2.2.2.2]))])
 have h7:((qBS ar).length:Int)=((qBS ar').length:Nat):=h7
 rw [hla,hlb] at h7
 have hl:ar.length=ar'.length:=by omega
 refine⟨Nat,fun k=>[(2, .ptr 0 0 0),(3, .ptr 1 0 0),(5, .p (i64 k))],fun _=>⟨2,[(1,cO ((Cd.mk o' n' r' v' rf' st' ar').cells.map .p)),(0,cO ((Cd.mk o n r v rf st ar).cells.map .p))]⟩,fun k=>k≤ar.length∧ar.take k=ar'.take k,fun k=>ar.length - k,?_,?_⟩
 ·exact⟨0,⟨Nat.zero_le _,rfl⟩,qAC [] [] [] rfl (sk) (sk) rfl⟩
 rintro k ⟨k1,k2⟩
 refine And.intro (fun m1=>?_) (fun m1=>?_)
 rotate_left
 ·have m1:¬ (k:Int)<((qBS ar).length:Nat):=m1
  rw [hla] at m1
  exact qAF _ rfl rfl (by rw [qRM (qJt.2 ⟨h1,h2,h3,h4,h5,h6,qFV hl (by omega) k2⟩)])
 have m1:(k:Int)<((qBS ar).length:Nat):=m1
 rw [hla] at m1
 have hk:k<ar.length:=by omega
 have hk':k<ar'.length:=by omega
 have c1:=qDA hk
 have c2:=qDA hk'
 rw [← qB0] at c1 c2
 have hm:=qAK cd0 hk
 have hm':=qAK cd0 hk'
 have hs:=ih (ar.getD k cd0) (ar'.getD k cd0) (by have:=qQm hm;omega) (qBQ a4 hm) (qBQ b4 hm')
 have hn:=qEF cd0 hk hk' k2
 have hd:¬ ar.getD k cd0=ar'.getD k cd0→¬ ar=ar':=fun h e=>h (by rw [e])
 generalize ar.getD k cd0=x at c1 hs hn hd
 generalize ar'.getD k cd0=y at c2 hs hn hd
 have hxy:x=y∨¬ x=y:=Classical.em _
 obtain⟨x1,x2,x3,x4,x5,x6,x7⟩:=x
 obtain⟨y1,y2,y3,y4,y5,y6,y7⟩:=y
 refine VDraw.seq rfl ?_
 refine⟨_,⟨by omega,(Cd.mk x1 x2 x3 x4 x5 x6 x7).cells,c1,rfl⟩,?_⟩
 refine⟨_,⟨by omega,(Cd.mk y1 y2 y3 y4 y5 y6 y7).cells,c2,rfl⟩,?_⟩
 refine hxy.elim (fun e=>?_) (fun e=>?_)
 ·rw [qRM e] at hs
  refine hs.eq rfl ?_
  refine⟨_,w6z,?_⟩
  exact⟨k+1,⟨hk,hn e⟩,qAC [] [] [] rfl (sk) (sk) rfl,by show ar.length - (k+1)<ar.length - k;omega⟩
 ·rw [qGv e] at hs
  refine hs.eq rfl ?_
  exact qAF _ rfl rfl (by rw [qGv (fun e2=>hd e (qJt.1 e2).2.2.2.2.2.2)])
theorem qMg:∀ n,qXD n
 | 0=>fun a _ h=>by cases a;rw [csz] at h;omega
 | n+1=>qPE n (qMg n)
theorem qTV (a b:Cd) (ha:qDk a) (hb:qDk b):Pure cx 57 [a.pv,b.pv] (·=.ret [.bool (cb (a=b))]):=qMg _ a b (Nat.le_refl _) ha hb
def Out {α:Type} (b:Bool) (p:Nat) (r:Rd α) (a:α) (q:Nat) (b':Bool):Prop:=if b=true then b'=true∧q=p else r=if b'=true then .inl q else .inr (a,q)
theorem Out.then {α β:Type} {b b1 b2:Bool} {p q q2:Nat} {r:Rd α} {k:α→Nat→Rd β} {a:α} {c:β} (h:Out b p r a q b1) (h2:Out b1 q (k a q) c q2 b2):Out b p (r.then k) c q2 b2:=by
 cases b
 ·have h:r=if b1=true then .inl q else .inr (a,q):=h
  show r.then k=_
  cases b1
  ·rw [if_neg (by decide)] at h
   subst h
   exact h2
  ·rw [if_pos rfl] at h
   subst h
   obtain⟨rfl,rfl⟩:b2=true∧q2=q:=h2
   rfl
 ·obtain⟨rfl,rfl⟩:b1=true∧q=p:=h
  exact h2
theorem Out.bad {α:Type} {p:Nat} {r:Rd α} {a:α}:Out true p r a p true:=⟨rfl,rfl⟩
theorem Out.same {α:Type} {b:Bool} {p:Nat} {a:α}:Out b p (.inr (a,p)) a p b:=by
 cases b
 ·rfl
 ·exact⟨rfl,rfl⟩
theorem Out.ret {α:Type} {b:Bool} {p:Nat} {a a':α} (h:a=a'):Out b p (.inr (a,p)) a' p b:=by
 subst h;exact Out.same
abbrev Tk (ws:List Wd) (b:Bool) (q:Nat) (s:List UInt8):Prop:=b=false∧txt ws q=s
theorem Out.yes {α:Type} {c:Prop} [Decidable c] {b:Bool} {p q:Nat} {x y:Rd α} {a:α} {b':Bool} (h:b=false∧c) (hx:Out false p x a q b'):Out b p (if c then x else y) a q b':=by
 obtain⟨rfl,h⟩:=h
 rw [if_pos h];exact hx
theorem Out.no {α:Type} {c:Prop} [Decidable c] {b:Bool} {p q:Nat} {x y:Rd α} {a:α} {b':Bool} (h:¬ (b=false∧c)) (hy:Out b p y a q b'):Out b p (if c then x else y) a q b':=by
 cases b
 ·rw [if_neg (fun e=>h ⟨rfl,e⟩)];exact hy
 ·exact hy
theorem qVl {ws:List Wd} (hg:GoodW ws) {q:Nat} {s:List UInt8} (hs:s∈keysL++marksL) (h:txt ws q=s) (hn:s ≠ []):knd ws q=2∨knd ws q=4:=by
 have hr:=hg.at (qAi (ws:=ws) (q:=q) (by rw [h];exact hn))
 rw [h] at hr
 have key:∀ s∈keysL++marksL,qAp s=false∧qJY s=false:=by decide
 obtain⟨k1,k2⟩:=key s hs
 unfold qAz at hr
 split at hr
 ·rw [k1] at hr;cases hr
 ·split at hr
  ·rename_i h2;exact .inl h2
  ·split at hr
   ·rw [k2] at hr;cases hr
   ·split at hr
    ·rename_i h4;exact .inr h4
    ·cases hr
def rrO (ws:List Wd) (q:Nat) (b:Bool):AObj:=⟨129,false, .bx [.p (.lsts 4 (ws.map Wd.cells)), .p (i64 q), .p (.bool b)]⟩
abbrev rrH (ws:List Wd) (q:Nat) (b:Bool):Hp:=⟨1,[(0,rrO ws q b)]⟩
def isQ (ws:List Wd) (q:Nat) (b:Bool) (s:List UInt8) (e:AE) (H':Hp):Prop:=(Tk ws b q s→e=.returned (vB true)∧H'=rrH ws q b)∧(¬ Tk ws b q s→e=.returned (vB false)∧H'=rrH ws q b)
theorem qT7 (ws:List Wd) (q:Nat) (b:Bool) (s:List UInt8) (hg:GoodW ws) (hq:q≤ws.length) (hs:s∈keysL++marksL) (hn:s ≠ []):HoldsG cx 136 [.ptr 0 0 0, .p (.str s)] (rrH ws q b) (isQ ws q b s):=by
 refine qAA Tryz.func136 rfl rfl rfl ?_
 have hl:=hg.len
 have hl':(ws.map Wd.cells).length=ws.length:=List.length_map ..
 cases b
 rotate_left
 ·refine VDraw.seq rfl ?_
  exact⟨[],[],[], .returned (vB false),rrH ws q true,rfl,sk,sk,fun h=>absurd h.1 (by decide),fun _=>⟨rfl,rfl⟩⟩
 refine VDraw.seq rfl ?_
 (first | refine qAP (fun h1=>?_) (fun h1=>?_) | refine qAQ (fun h1=>?_) (fun h1=>?_) | refine qAR (fun h1=>?_) (fun h1=>?_))
 rotate_left
 ·have h1:¬ (q:Int)<((ws.map Wd.cells).length:Nat):=h1
  rw [hl'] at h1
  exact⟨[],[],[], .returned (vB false),rrH ws q false,rfl,sk,sk,fun h=>absurd (qAi (ws:=ws) (q:=q) (by rw [h.2];exact hn)) (by omega),fun _=>⟨rfl,rfl⟩⟩
 have h1:(q:Int)<((ws.map Wd.cells).length:Nat):=h1
 rw [hl'] at h1
 have hlt:q<ws.length:=by omega
 refine⟨_,⟨by omega,(wat ws q).cells,qCb hlt,rfl⟩,?_⟩
 (first | refine qAP (fun h2=>?_) (fun h2=>?_) | refine qAQ (fun h2=>?_) (fun h2=>?_) | refine qAR (fun h2=>?_) (fun h2=>?_))
 rotate_left
 ·have h2:¬ txt ws q=s:=h2
  exact⟨[],[],[], .returned (vB false),rrH ws q false,rfl,sk,sk,fun h=>absurd h.2 h2,fun _=>⟨rfl,rfl⟩⟩
 have h2:txt ws q=s:=h2
 have hk:=qVl hg hs h2 hn
 refine⟨_,⟨by omega,(wat ws q).cells,qCb hlt,rfl⟩,?_⟩
 (first | refine qAP (fun h3=>?_) (fun h3=>?_) | refine qAQ (fun h3=>?_) (fun h3=>?_) | refine qAR (fun h3=>?_) (fun h3=>?_))
 ·exact⟨[],[],[], .returned (vB true),rrH ws q false,rfl,sk,sk,fun _=>⟨rfl,rfl⟩,fun h=>absurd ⟨rfl,h2⟩ h⟩
 have h3:¬ knd ws q=2:=h3
 refine⟨_,⟨by omega,(wat ws q).cells,qCb hlt,rfl⟩,?_⟩
 (first | refine qAP (fun h4=>?_) (fun h4=>?_) | refine qAQ (fun h4=>?_) (fun h4=>?_) | refine qAR (fun h4=>?_) (fun h4=>?_))
 ·exact⟨[],[],[], .returned (vB true),rrH ws q false,rfl,sk,sk,fun _=>⟨rfl,rfl⟩,fun h=>absurd ⟨rfl,h2⟩ h⟩
 ·have h4:¬ knd ws q=4:=h4
  omega
def tkQ (ws:List Wd) (q:Nat) (b:Bool) (s:List UInt8) (e:AE) (H':Hp):Prop:=(Tk ws b q s→e=.returned (vB true)∧H'=rrH ws (q+1) false)∧(¬ Tk ws b q s→e=.returned (vB false)∧H'=rrH ws q b)
theorem qAy (ws:List Wd) (q:Nat) (b:Bool) (s:List UInt8) (hg:GoodW ws) (hq:q≤ws.length) (hs:s∈keysL++marksL) (hn:s ≠ []):HoldsG cx 96 [.ptr 0 0 0, .p (.str s)] (rrH ws q b) (tkQ ws q b s):=by
 refine qAA Tryz.func96 rfl rfl rfl ?_
 have hl:=hg.len
 refine(qT7 ws q b s hg hq hs hn).holds.mono fun e H' h=>?_
 by_cases c:Tk ws b q s
 ·obtain⟨rfl,rfl⟩:=h.1 c
  obtain⟨rfl,c2⟩:=c
  refine⟨_,w6z,?_⟩
  exact⟨[],[],[], .returned (vB true),rrH ws (q+1) false,rfl,sk,sk,fun _=>⟨rfl,rfl⟩,fun h=>absurd ⟨rfl,c2⟩ h⟩
 ·obtain⟨rfl,rfl⟩:=h.2 c
  exact⟨[],[],[], .returned (vB false),rrH ws q b,rfl,sk,sk,fun h=>absurd h c,fun _=>⟨rfl,rfl⟩⟩
def RQ {α:Type} (ws:List Wd) (b:Bool) (q:Nat) (r:Rd α) (val:α→AV) (e:AE) (H':Hp):Prop:=∃ a q' b',q'≤ws.length∧Out b q r a q' b'∧e=.returned (val a)∧H'=rrH ws q' b'
theorem qA9 (ws:List Wd) (q:Nat) (b:Bool) (s:List UInt8) (hg:GoodW ws) (hq:q≤ws.length) (hs:s∈keysL++marksL) (hn:s ≠ []):HoldsG cx 99 [.ptr 0 0 0, .p (.str s)] (rrH ws q b) (RQ ws b q (qBs ws s q) fun _=>und):=by
 refine qAA Tryz.func99 rfl rfl rfl ?_
 refine(qAy ws q b s hg hq hs hn).holds.mono fun e H' h=>?_
 by_cases c:Tk ws b q s
 ·obtain⟨rfl,rfl⟩:=h.1 c
  obtain⟨rfl,c2⟩:=c
  exact⟨[],[],[], .returned und,rrH ws (q+1) false,rfl,sk,sk,(),q+1,false,qAi (by rw [c2];exact hn),by show qBs ws s q=_;rw [qBs,if_pos c2];rfl,rfl,rfl⟩
 ·obtain⟨rfl,rfl⟩:=h.2 c
  refine⟨[],[],[], .returned und,rrH ws q true,rfl,sk,sk,(),q,true,hq,?_,rfl,rfl⟩
  cases b
  ·show qBs ws s q=.inl q
   rw [qBs,if_neg (fun e=>c ⟨rfl,e⟩)]
  ·exact Out.bad
def wdR (ws:List Wd) (k:Int) (q:Nat):Rd (List UInt8):=if knd ws q=k then .inr (txt ws q,q+1) else .inl q
theorem qSW (ws:List Wd) (q:Nat) (b:Bool) (k:Int) (hk:k ≠ 0) (hg:GoodW ws) (hq:q≤ws.length):HoldsG cx 137 [.ptr 0 0 0, .p (i64 k)] (rrH ws q b) fun e H'=>∃ a q' b',(q'≤ws.length∧(b'=true→a=[]))∧Out b q (wdR ws k q) a q' b'∧e=.returned (.p (.str a))∧H'=rrH ws q' b':=by
 refine qAA Tryz.func137 rfl rfl rfl ?_
 have hl:=hg.len
 have hl':(ws.map Wd.cells).length=ws.length:=List.length_map ..
 cases b
 rotate_left
 ·refine VDraw.seq rfl ?_
  exact⟨[],[],[], .returned (.p (.str [])),rrH ws q true,rfl,sk,sk,[],q,true,⟨hq,fun _=>rfl⟩,Out.bad,rfl,rfl⟩
 have no:¬ knd ws q=k→Out false q (wdR ws k q) [] q true:=fun h=>by
  show wdR ws k q=.inl q
  rw [wdR,if_neg h]
 refine VDraw.seq rfl ?_
 (first | refine qAP (fun h1=>?_) (fun h1=>?_) | refine qAQ (fun h1=>?_) (fun h1=>?_) | refine qAR (fun h1=>?_) (fun h1=>?_))
 ·have h1:((ws.map Wd.cells).length:Int)≤(q:Nat):=h1
  rw [hl'] at h1
  exact⟨[],[],[], .returned (.p (.str [])),rrH ws q true,rfl,sk,sk,[],q,true,⟨hq,fun _=>rfl⟩,no (fun e=>absurd (qFk (ws:=ws) (q:=q) (by rw [e];exact hk)) (by omega)),rfl,rfl⟩
 have h1:¬ ((ws.map Wd.cells).length:Int)≤(q:Nat):=h1
 rw [hl'] at h1
 have hlt:q<ws.length:=by omega
 refine⟨_,⟨by omega,(wat ws q).cells,qCb hlt,rfl⟩,?_⟩
 (first | refine qAP (fun h2=>?_) (fun h2=>?_) | refine qAQ (fun h2=>?_) (fun h2=>?_) | refine qAR (fun h2=>?_) (fun h2=>?_))
 rotate_left
 ·have h2:¬ knd ws q=k:=h2
  exact⟨[],[],[], .returned (.p (.str [])),rrH ws q true,rfl,sk,sk,[],q,true,⟨hq,fun _=>rfl⟩,no h2,rfl,rfl⟩
 have h2:knd ws q=k:=h2
 refine⟨_,w6z,?_⟩
 refine VDraw.seq rfl ?_
 refine⟨(q:Int),by rw [show(q:Int)+1 - 1=(q:Int) by omega];exact w6z,?_⟩
 refine⟨_,⟨by omega,(wat ws q).cells,qCb hlt,rfl⟩,?_⟩
 exact⟨[],[],[], .returned (.p (.str (txt ws q))),rrH ws (q+1) false,rfl,sk,sk,txt ws q,q+1,false,⟨hlt,fun h=>by cases h⟩,by show wdR ws k q=_;rw [wdR,if_pos h2];rfl,rfl,rfl⟩
theorem qE6 (ws:List Wd) (q:Nat) (b:Bool) (hg:GoodW ws) (hq:q≤ws.length):HoldsG cx 98 [.ptr 0 0 0] (rrH ws q b) (RQ ws b q (qCg ws q) fun t=>.p (.str t)):=by
 refine qAA Tryz.func98 rfl rfl rfl ?_
 refine(qSW ws q b 1 (by decide) hg hq).holds.mono fun e H' h=>?_
 obtain⟨a,q',b',⟨h1,_⟩,h2,rfl,rfl⟩:=h
 exact⟨[],[],[], .returned (.p (.str a)),rrH ws q' b',rfl,sk,sk,a,q',b',h1,h2,rfl,rfl⟩
theorem qTr (ws:List Wd) (q:Nat):qCk ws q=(wdR ws 3 q).then fun t q=>.inr (qI8 t,q):=by
 rw [qCk,wdR]
 split <;> rfl
theorem qWb {s:List UInt8} {k:Nat} (h:k<s.length):s[k]?=some (s.getD k 0):=by
 rw [List.getD_eq_getElem?_getD,List.getElem?_eq_getElem h];rfl
theorem qDE (ws:List Wd) (q:Nat) (b:Bool) (hg:GoodW ws) (hq:q≤ws.length):HoldsG cx 97 [.ptr 0 0 0] (rrH ws q b) (RQ ws b q (qCk ws q) fun n=>.p (i64 n)):=by
 refine qAA Tryz.func97 rfl rfl rfl ?_
 refine(qSW ws q b 3 (by decide) hg hq).holds.mono fun e H' h=>?_
 obtain⟨t,q',b',⟨h1,hb⟩,h2,rfl,rfl⟩:=h
 have hdig:t.length≤4∧∀ c∈t,48≤c.toNat∧c.toNat≤57:=by
  cases b'
  ·cases b
   ·have h2:wdR ws 3 q=.inr (t,q'):=h2
    rw [wdR] at h2
    split at h2
    ·rename_i hk
     injection h2 with h2;injection h2 with h3 h4
     rw [← h3]
     exact qLW (qPs hg hk)
    ·cases h2
   ·exact absurd h2.1 (by decide)
  ·rw [hb rfl];exact⟨by simp,by simp⟩
 obtain⟨ht4,hdg⟩:=hdig
 refine⟨Nat,fun k=>[(3, .p (.str t)),(4, .p (i64 (qI8 (t.take k)))),(5, .p (i64 k))],fun _=>rrH ws q' b',fun k=>k≤t.length,fun k=>t.length - k,?_,?_⟩
 ·exact⟨0,Nat.zero_le _,qAC [] [] [] rfl (sk) (sk) rfl⟩
 intro k hk
 (first | refine qAP (fun h3=>?_) (fun h3=>?_) | refine qAQ (fun h3=>?_) (fun h3=>?_) | refine qAR (fun h3=>?_) (fun h3=>?_))
 ·have h3:(k:Int)<(t.length:Nat):=h3
  have hkt:k<t.length:=by omega
  obtain⟨c,hc⟩:∃ c,c=t.getD k 0:=⟨_,rfl⟩
  have hbd:=hdg c (by rw [hc];exact qAK 0 hkt)
  have hv:=qFQ hdg k hk
  have hp:(10:Int) ^ k≤10 ^ 4:=by
   rcases (show k=0∨k=1∨k=2∨k=3∨k=4 by omega) with rfl | rfl | rfl | rfl | rfl <;> decide
  have hp4:(10:Int) ^ 4=10000:=by decide
  refine⟨10 * qI8 (t.take k),w6z,?_⟩
  refine⟨_,⟨by omega,c,by rw [hc];exact qWb hkt,rfl⟩,?_⟩
  refine⟨(c.toNat:Int) - 48,qWa (by omega) (by omega),?_⟩
  refine⟨(c.toNat:Int) - 48,w6z,?_⟩
  refine⟨qI8 (t.take (k+1)),by rw [qAW 0 hkt,← hc,qFR];exact w6z,?_⟩
  refine⟨_,w6z,?_⟩
  exact⟨k+1,hkt,qAC [] [] [] rfl (sk) (sk) rfl,by show t.length - (k+1)<t.length - k;omega⟩
 ·have h3:¬ (k:Int)<(t.length:Nat):=h3
  have hke:k=t.length:=by omega
  subst hke
  refine⟨[],[],[], .returned (.p (i64 (qI8 t))),rrH ws q' b',rfl,⟨_,rfl,by rw [qBY (Nat.le_refl _)];rfl⟩,sk,qI8 t,q',b',h1,?_,rfl,rfl⟩
  rw [qTr]
  exact h2.then Out.same
theorem Out.mv {α:Type} {p p' q:Nat} {r:Rd α} {a:α} {b':Bool} (h:Out false p r a q b'):Out false p' r a q b':=h
theorem qRf {ws:List Wd} {nm pl:List UInt8} {m n:Int} {b:Bool} {q q9:Nat} {b9:Bool} {u:Unit} (o:Out b q (qBs ws tRB q) u q9 b9):Out b q (qCT ws nm m pl n q) ⟨nm,m,pl,n⟩ q9 b9:=o.then Out.same
theorem qPM (ws:List Wd) (q0:Nat) (b0:Bool) (hg:GoodW ws) (hq0:q0≤ws.length):HoldsG cx 138 [.ptr 0 0 0] (rrH ws q0 b0) (RQ ws b0 q0 (qIQ ws q0) fun r=>.p r.pv):=by
 refine qAA Tryz.func138 rfl rfl rfl ?_
 have hl:=hg.len
 have hl':(ws.map Wd.cells).length=ws.length:=List.length_map ..
 refine(qE6 ws q0 b0 hg hq0).holds.useT [] [] rfl (sk) (sk) fun e0 H0 hq=>?_
 obtain⟨nm,q1,b1,q1l,o1,rfl,rfl⟩:=hq
 refine⟨rfl,_,⟨2,(0,rrO ws q1 b1)::[(1,rO rf0)]⟩,rfl,rfl,?_⟩
 by_cases c1:Tk ws b1 q1 tLB
 rotate_left
 ·refine(qAy ws q1 b1 tLB hg q1l (by decide) (by decide)).holds.useT [] [] rfl (sk) (sk) fun e0 H0 hq=>?_
  obtain⟨rfl,rfl⟩:=hq.2 c1
  refine⟨rfl,_,⟨3,(0,rrO ws q1 b1)::[(2,rO ⟨nm,0,[],0⟩),(1,rO rf0)]⟩,rfl,rfl,?_⟩
  exact⟨[],[],[], .returned (.p (⟨nm,0,[],0⟩:Rf).pv),rrH ws q1 b1,rfl,sk,sk,⟨nm,0,[],0⟩,q1,b1,q1l,o1.then (Out.no c1 Out.same),rfl,rfl⟩
 have q2l:q1+1≤ws.length:=qAi (by rw [c1.2];decide)
 refine(qAy ws q1 b1 tLB hg q1l (by decide) (by decide)).holds.useT [] [] rfl (sk) (sk) fun e0 H0 hq=>?_
 obtain⟨rfl,rfl⟩:=hq.1 c1
 refine⟨rfl,_,⟨3,(0,rrO ws (q1+1) false)::[(2,rO ⟨nm,0,[],0⟩),(1,rO rf0)]⟩,rfl,rfl,?_⟩
 by_cases c2:Tk ws false (q1+1) qGz
 ·have q3l:q1+1+1≤ws.length:=qAi (by rw [c2.2];decide)
  refine(qAy ws (q1+1) false qGz hg q2l (by decide) (by decide)).holds.useT [] [] rfl (sk) (sk) fun e0 H0 hq=>?_
  obtain⟨rfl,rfl⟩:=hq.1 c2
  refine⟨rfl,_,⟨3,(0,rrO ws ((q1+1)+1) false)::[(2,rO ⟨nm,0,[],0⟩),(1,rO rf0)]⟩,rfl,rfl,?_⟩
  obtain⟨q3,hq3⟩:∃ q3,q3=q1+1+1:=⟨_,rfl⟩
  rw [← hq3] at q3l
  rw [← hq3]
  refine(qA9 ws q3 false tRB hg q3l (by decide) (by decide)).holds.useT [] [] rfl (sk) (sk) fun e0 H0 hq=>?_
  obtain⟨u,q9,b9,q9l,o9,rfl,rfl⟩:=hq
  refine⟨rfl,_,⟨3,(0,rrO ws q9 b9)::[(2,rO ⟨nm,3,[],0⟩),(1,rO rf0)]⟩,rfl,rfl,?_⟩
  exact⟨[],[],[], .returned (.p (⟨nm,3,[],0⟩:Rf).pv),rrH ws q9 b9,rfl,sk,sk,⟨nm,3,[],0⟩,q9,b9,q9l,(o1.then (Out.yes c1 (Out.yes c2 (by rw [show q1+2=q3 by omega];exact(qRf o9).mv (p':=q1))))),rfl,rfl⟩
 refine(qAy ws (q1+1) false qGz hg q2l (by decide) (by decide)).holds.useT [] [] rfl (sk) (sk) fun e0 H0 hq=>?_
 obtain⟨rfl,rfl⟩:=hq.2 c2
 refine⟨rfl,_,⟨3,(0,rrO ws (q1+1) false)::[(2,rO ⟨nm,0,[],0⟩),(1,rO rf0)]⟩,rfl,rfl,?_⟩
 by_cases c3:knd ws (q1+1)=3
 ·have hlt:q1+1<ws.length:=qFk (by rw [c3];decide)
  refine VDraw.seq rfl ?_
  refine And.intro (fun _=>?_) (fun h=>absurd (show((q1+1:Nat):Int)<((ws.map Wd.cells).length:Nat) by rw [hl'];omega) h)
  refine⟨_,⟨by omega,(wat ws (q1+1)).cells,qCb hlt,rfl⟩,?_⟩
  refine And.intro (fun _=>?_) (fun h=>absurd c3 h)
  refine(qDE ws (q1+1) false hg q2l).holds.useT [] [] rfl (sk) (sk) fun e0 H0 hq=>?_
  obtain⟨n,q4,b4,q4l,o4,rfl,rfl⟩:=hq
  refine⟨rfl,_,⟨3,(0,rrO ws q4 b4)::[(2,rO ⟨nm,0,[],0⟩),(1,rO rf0)]⟩,rfl,rfl,?_⟩
  refine(qA9 ws q4 b4 tRB hg q4l (by decide) (by decide)).holds.useT [] [] rfl (sk) (sk) fun e0 H0 hq=>?_
  obtain⟨u,q9,b9,q9l,o9,rfl,rfl⟩:=hq
  refine⟨rfl,_,⟨3,(0,rrO ws q9 b9)::[(2,rO ⟨nm,2,[],n⟩),(1,rO rf0)]⟩,rfl,rfl,?_⟩
  exact⟨[],[],[], .returned (.p (⟨nm,2,[],n⟩:Rf).pv),rrH ws q9 b9,rfl,sk,sk,⟨nm,2,[],n⟩,q9,b9,q9l,(o1.then (Out.yes c1 (Out.no c2 (Out.yes ⟨rfl,c3⟩ (o4.then (qRf o9)))).mv)),rfl,rfl⟩
 have c3':¬ (false=false∧knd ws (q1+1)=3):=fun h=>c3 h.2
 have hb:∀ {r:Rf} {q9:Nat} {b9:Bool},Out false (q1+1) ((qCg ws (q1+1)).then fun pl q=>if txt ws q=qEA then(qCk ws (q+1)).then fun n q=>qCT ws nm 1 pl n q else qCT ws nm 1 pl 0 q) r q9 b9→Out b0 q0 (qIQ ws q0) r q9 b9:=
  fun h=>o1.then (Out.yes c1 (Out.no c2 (Out.no c3' h)).mv)
 refine VDraw.seqTo [(0, .ptr 0 0 0),(2, .ptr 1 0 0),(3, .ptr 2 0 0),(24,vB false)] ⟨3,[(0,rrO ws (q1+1) false),(2,rO ⟨nm,0,[],0⟩),(1,rO rf0)]⟩ rfl ?_ ?_
 ·(first | refine qAP (fun c4=>?_) (fun c4=>?_) | refine qAQ (fun c4=>?_) (fun c4=>?_) | refine qAR (fun c4=>?_) (fun c4=>?_))
  ·have c4:((q1+1:Nat):Int)<((ws.map Wd.cells).length:Nat):=c4
   rw [hl'] at c4
   refine⟨_,⟨by omega,(wat ws (q1+1)).cells,qCb (by omega),rfl⟩,?_⟩
   refine And.intro (fun h=>absurd h c3) (fun _=>?_)
   exact qAC [] [] [] rfl (sk) (sk) rfl
  ·exact qAC [] [] [] rfl (sk) (sk) rfl
 refine(qE6 ws (q1+1) false hg q2l).holds.useT [] [] rfl (sk) (sk) fun e0 H0 hq=>?_
 obtain⟨pl,q5,b5,q5l,o5,rfl,rfl⟩:=hq
 refine⟨rfl,_,⟨3,(0,rrO ws q5 b5)::[(2,rO ⟨nm,0,[],0⟩),(1,rO rf0)]⟩,rfl,rfl,?_⟩
 by_cases c6:Tk ws b5 q5 qEA
 ·have q6l:q5+1≤ws.length:=qAi (by rw [c6.2];decide)
  refine(qAy ws q5 b5 qEA hg q5l (by decide) (by decide)).holds.useT [] [] rfl (sk) (sk) fun e0 H0 hq=>?_
  obtain⟨rfl,rfl⟩:=hq.1 c6
  refine⟨rfl,_,⟨3,(0,rrO ws (q5+1) false)::[(2,rO ⟨nm,1,pl,0⟩),(1,rO rf0)]⟩,rfl,rfl,?_⟩
  refine(qDE ws (q5+1) false hg q6l).holds.useT [] [] rfl (sk) (sk) fun e0 H0 hq=>?_
  obtain⟨n,q7,b7,q7l,o7,rfl,rfl⟩:=hq
  refine⟨rfl,_,⟨3,(0,rrO ws q7 b7)::[(2,rO ⟨nm,1,pl,0⟩),(1,rO rf0)]⟩,rfl,rfl,?_⟩
  refine(qA9 ws q7 b7 tRB hg q7l (by decide) (by decide)).holds.useT [] [] rfl (sk) (sk) fun e0 H0 hq=>?_
  obtain⟨u,q9,b9,q9l,o9,rfl,rfl⟩:=hq
  refine⟨rfl,_,⟨3,(0,rrO ws q9 b9)::[(2,rO ⟨nm,1,pl,n⟩),(1,rO rf0)]⟩,rfl,rfl,?_⟩
  exact⟨[],[],[], .returned (.p (⟨nm,1,pl,n⟩:Rf).pv),rrH ws q9 b9,rfl,sk,sk,⟨nm,1,pl,n⟩,q9,b9,q9l,(hb (o5.then (Out.yes c6 (o7.then (qRf o9)).mv))),rfl,rfl⟩
 ·refine(qAy ws q5 b5 qEA hg q5l (by decide) (by decide)).holds.useT [] [] rfl (sk) (sk) fun e0 H0 hq=>?_
  obtain⟨rfl,rfl⟩:=hq.2 c6
  refine⟨rfl,_,⟨3,(0,rrO ws q5 b5)::[(2,rO ⟨nm,1,pl,0⟩),(1,rO rf0)]⟩,rfl,rfl,?_⟩
  refine(qA9 ws q5 b5 tRB hg q5l (by decide) (by decide)).holds.useT [] [] rfl (sk) (sk) fun e0 H0 hq=>?_
  obtain⟨u,q9,b9,q9l,o9,rfl,rfl⟩:=hq
  refine⟨rfl,_,⟨3,(0,rrO ws q9 b9)::[(2,rO ⟨nm,1,pl,0⟩),(1,rO rf0)]⟩,rfl,rfl,?_⟩
  exact⟨[],[],[], .returned (.p (⟨nm,1,pl,0⟩:Rf).pv),rrH ws q9 b9,rfl,sk,sk,⟨nm,1,pl,0⟩,q9,b9,q9l,(hb (o5.then (Out.no c6 (qRf o9)))),rfl,rfl⟩
def LK {α:Type} (b0:Bool) (q0:Nat) (R:Rd α) (go:Nat→Rd α) (n:Nat) (q:Nat) (b:Bool):Prop:=∃ f,(b=false→n - q<f)∧∀ l q' b',Out b q (go f) l q' b'→Out b0 q0 R l q' b'
theorem LK.stop {α:Type} {b0:Bool} {q0:Nat} {R:Rd α} {go:Nat→Rd α} {n q:Nat} {b:Bool} {l:α} (h:LK b0 q0 R go n q b) (hs:b=false→∀ f,go (f+1)=.inr (l,q)):Out b0 q0 R l q b:=by
 obtain⟨f,hf,hk⟩:=h
 refine hk l q b ?_
 cases b
 ·obtain⟨f,rfl⟩:∃ g,f=g+1:=⟨f - 1,by have:=hf rfl;omega⟩
  rw [hs rfl f];exact Out.same
 ·exact Out.bad
theorem LK.step {α:Type} {b0:Bool} {q0:Nat} {R:Rd α} {go go':Nat→Rd α} {n q q2:Nat} {b2:Bool} (h:LK b0 q0 R go n q false) (hs:∀ f l q' b',Out b2 q2 (go' f) l q' b'→Out false q (go (f+1)) l q' b') (hlt:b2=false→q<q2∧q2≤n):LK b0 q0 R go' n q2 b2:=by
 obtain⟨f,hf,hk⟩:=h
 obtain⟨f,rfl⟩:∃ g,f=g+1:=⟨f - 1,by have:=hf rfl;omega⟩
 refine⟨f,fun e=>?_,fun l q' b' ho=>hk l q' b' (hs f l q' b' ho)⟩
 have:=hf rfl
 have:=hlt e
 omega
theorem qBZ {α:Type} {p q:Nat} {r:Rd α} {a:α} (h:Out false p r a q false):r=.inr (a,q):=h
theorem qJJ (ws:List Wd) (F q0:Nat) (b0:Bool) (key:List UInt8) (hk:key∈keysL++marksL) (hkn:key ≠ []) (hF:ws.length<F) (hg:GoodW ws) (hq0:q0≤ws.length):HoldsG cx 100 [.ptr 0 0 0, .p (.str key)] (rrH ws q0 b0) (RQ ws b0 q0 (qEp ws F key q0) fun l=>.p (qBu l)):=by
 refine qAA Tryz.func100 rfl rfl rfl ?_
 have hl:=hg.len
 by_cases c1:Tk ws b0 q0 key
 rotate_left
 ·refine(qAy ws q0 b0 key hg hq0 hk hkn).holds.useT [] [] rfl (sk) (sk) fun e0 H0 hq=>?_
  obtain⟨rfl,rfl⟩:=hq.2 c1
  refine⟨rfl,_,⟨1,(0,rrO ws q0 b0)::[]⟩,rfl,rfl,?_⟩
  exact⟨[],[],[], .returned (.p (qBu [])),rrH ws q0 b0,rfl,⟨_,rfl, .inr (.inr ⟨4,rfl⟩)⟩,sk,[],q0,b0,hq0,Out.no c1 Out.same,rfl,rfl⟩
 have q1l:q0+1≤ws.length:=qAi (by rw [c1.2];exact hkn)
 refine(qAy ws q0 b0 key hg hq0 hk hkn).holds.useT [] [] rfl (sk) (sk) fun e0 H0 hq=>?_
 obtain⟨rfl,rfl⟩:=hq.1 c1
 refine⟨rfl,_,⟨1,(0,rrO ws (q0+1) false)::[]⟩,rfl,rfl,?_⟩
 refine(qPM ws (q0+1) false hg q1l).holds.useT [] [] rfl (sk) (sk) fun e0 H0 hq=>?_
 obtain⟨r0,q2,b2,q2l,o2,rfl,rfl⟩:=hq
 refine⟨rfl,_,⟨1,(0,rrO ws q2 b2)::[]⟩,rfl,rfl,?_⟩
 refine⟨List Rf × Nat × Bool,fun x=>[(0, .ptr 0 0 0),(5, .sl 1 4 0 x.1.length)],fun x=>⟨2,[(1,qKF x.1),(0,rrO ws x.2.1 x.2.2)]⟩,fun x=>x.2.1≤ws.length∧(x.2.2=false→x.1.length≤x.2.1)∧x.1.length≤1501∧LK b0 q0 (qEp ws F key q0) (fun f=>qDU ws (qIQ ws) f x.1 x.2.1) ws.length x.2.1 x.2.2,fun x=>if x.2.2=true then 0 else ws.length+1 - x.2.1,?_,?_⟩
 ·refine⟨([r0],q2,b2),⟨q2l,fun e=>?_,by simp,F,fun _=>by simp only [];omega,fun l q' b' ho=>Out.yes c1 (o2.then ho).mv⟩,qAC [] [] [] rfl (sk) (sk) rfl⟩
  simp only [] at e
  subst e
  have:=qGg (qBZ o2)
  simp only [List.length_singleton];omega
 rintro⟨acc,q,b⟩ ⟨k1,k2,k3,k4⟩
 simp only [] at k1 k2 k3 k4
 by_cases c:Tk ws b q qAt
 ·have ql:q+1≤ws.length:=qAi (by rw [c.2];decide)
  refine(qAy ws q b qAt hg k1 (by decide) (by decide)).holds.useT [] [] rfl (sk) (sk) fun e0 H0 hq=>?_
  obtain⟨rfl,rfl⟩:=hq.1 c
  refine⟨rfl,_,⟨2,(0,rrO ws (q+1) false)::[(1,qKF acc)]⟩,rfl,rfl,?_⟩
  refine(qPM ws (q+1) false hg ql).holds.useT [] [] rfl (sk) (sk) fun e0 H0 hq=>?_
  obtain⟨r,q3,b3,q3l,o3,rfl,rfl⟩:=hq
  refine⟨rfl,_,⟨2,(0,rrO ws q3 b3)::[(1,qKF acc)]⟩,rfl,rfl,?_⟩
  have hal:=k2 c.1
  refine⟨by show 0+1≤1;omega,[r.cells],rfl,?_⟩
  refine⟨by show 0+acc.length≤(acc.map Rf.cells).length;simp,acc.map Rf.cells,qAD (by simp),by show(acc.length+1) * 48≤140737488355328;omega,(acc++[r]).map Rf.cells,by simp,?_⟩
  have hlt:b3=false→q+1<q3:=fun e=>by subst e;exact qGg (qBZ o3)
  have c':=c
  obtain⟨rfl,ct⟩:=c'
  exact⟨(acc++[r],q3,b3),⟨q3l,fun e=>by have:=hlt e;show(acc++[r]).length≤q3;rw [qAJ];omega,by show(acc++[r]).length≤1501;rw [qAJ];omega,k4.step (fun f l q' b' ho=>by rw [qDU];exact Out.yes ⟨rfl,ct⟩ (o3.then ho).mv) (fun e=>⟨by have:=hlt e;show q<q3;omega,q3l⟩)⟩,qAC [] [(1,3)] [] rfl ⟨⟨rfl,rfl⟩,congrArg (fun k:Nat=>AV.sl 3 4 0 k) (qAJ acc r).symm,trivial⟩ (sk) rfl,by show(if b3=true then 0 else ws.length+1 - q3)<(if false=true then 0 else ws.length+1 - q);cases b3 <;> simp <;> (try have:=hlt rfl) <;> omega⟩
 ·refine(qAy ws q b qAt hg k1 (by decide) (by decide)).holds.useT [] [] rfl (sk) (sk) fun e0 H0 hq=>?_
  obtain⟨rfl,rfl⟩:=hq.2 c
  refine⟨rfl,_,⟨2,(0,rrO ws q b)::[(1,qKF acc)]⟩,rfl,rfl,?_⟩
  exact⟨[1],[],[], .returned (.p (qBu acc)),rrH ws q b,rfl,⟨_,rfl,⟨_,rfl,by show 0+acc.length≤(acc.map Rf.cells).length;simp,qAD (by simp)⟩⟩,sk,acc,q,b,k1,k4.stop (fun e f=>by rw [qDU,if_neg (fun h=>c ⟨e,h⟩)]),rfl,rfl⟩
def sgL:List (List UInt8):=[tEq,tNe,tLt,tLe]
def sg (i:Nat):List UInt8:=sgL.getD i []
theorem qWf:∀ i,i<4→sg i∈keysL++marksL∧sg i ≠ []
 | 0,_=>by decide
 | 1,_=>by decide
 | 2,_=>by decide
 | 3,_=>by decide
 | i+4,h=>by omega
theorem qTa {ws:List Wd} {q:Nat}:∀ {i:Nat},i<4→(∀ j,j<i→¬ txt ws q=sg j)→txt ws q=sg i→qJM ws q=.inr (((i+1:Nat):Int),q+1)
 | 0,_,_,h=>by rw [qJM,if_pos (show txt ws q=tEq from h)];rfl
 | 1,_,h0,h=>by rw [qJM,if_neg (show ¬ txt ws q=tEq from h0 0 (by omega)),if_pos (show txt ws q=tNe from h)];rfl
 | 2,_,h0,h=>by rw [qJM,if_neg (show ¬ txt ws q=tEq from h0 0 (by omega)),if_neg (show ¬ txt ws q=tNe from h0 1 (by omega)),if_pos (show txt ws q=tLt from h)];rfl
 | 3,_,h0,h=>by rw [qJM,if_neg (show ¬ txt ws q=tEq from h0 0 (by omega)),if_neg (show ¬ txt ws q=tNe from h0 1 (by omega)),if_neg (show ¬ txt ws q=tLt from h0 2 (by omega)),if_pos (show txt ws q=tLe from h)];rfl
 | i+4,h,_,_=>by omega
theorem qVL {ws:List Wd} {q:Nat} (h0:∀ j,j<4→¬ txt ws q=sg j):qJM ws q=.inl q:=by
 rw [qJM,if_neg (show ¬ txt ws q=tEq from h0 0 (by omega)),if_neg (show ¬ txt ws q=tNe from h0 1 (by omega)),if_neg (show ¬ txt ws q=tLt from h0 2 (by omega)),if_neg (show ¬ txt ws q=tLe from h0 3 (by omega))]
def sgO:AObj:=⟨74,false, .bx (sgL.map fun w=>.p (.str w))⟩
theorem qSi (ws:List Wd) (q:Nat) (b:Bool) (hg:GoodW ws) (hq:q≤ws.length):HoldsG cx 209 [.ptr 0 0 0] (rrH ws q b) (RQ ws b q (qJM ws q) fun n=>.p (i64 n)):=by
 refine qAA Tryz.func209 rfl rfl rfl ?_
 have hl:=hg.len
 refine⟨Nat,fun i=>[(0, .ptr 0 0 0),(3, .ptr 1 0 0),(4, .p (i64 i))],fun _=>⟨2,[(1,sgO),(0,rrO ws q b)]⟩,fun i=>i≤4∧∀ j,j<i→¬ Tk ws b q (sg j),fun i=>4 - i,?_,?_⟩
 ·exact⟨0,⟨by omega,fun j h=>by omega⟩,qAC [] [] [] rfl (sk) (sk) rfl⟩
 rintro i ⟨i1,i2⟩
 (first | refine qAP (fun h1=>?_) (fun h1=>?_) | refine qAQ (fun h1=>?_) (fun h1=>?_) | refine qAR (fun h1=>?_) (fun h1=>?_))
 ·have h1:(i:Int)<4:=h1
  have hi:i<4:=by omega
  obtain⟨s1,s2⟩:=qWf i hi
  refine⟨by omega,?_⟩
  refine⟨.p (.str (sg i)),qOP (by kernel_rfl) (by show(sgL.map fun w=>AV.p (.str w))[0+((i:Nat):Int).toNat * 1]?=some (AV.p (.str (sgL.getD i [])));rw [Int.toNat_natCast,Nat.mul_one,Nat.zero_add,List.getElem?_map,List.getD_eq_getElem?_getD,List.getElem?_eq_getElem (show i<sgL.length by exact hi)];rfl),?_⟩
  by_cases c:Tk ws b q (sg i)
  ·have q1l:q+1≤ws.length:=qAi (by rw [c.2];exact s2)
   refine(qAy ws q b (sg i) hg hq s1 s2).holds.useT [] [] rfl (sk) (sk) fun e0 H0 hq=>?_
   obtain⟨rfl,rfl⟩:=hq.1 c
   refine⟨rfl,_,⟨2,(0,rrO ws (q+1) false)::[(1,sgO)]⟩,rfl,rfl,?_⟩
   refine⟨((i+1:Nat):Int),by show _=IntKind.i64.wrap (1+(i:Int));rw [show(1:Int)+(i:Int)=((i+1:Nat):Int) by omega];exact w6z,?_⟩
   refine⟨[],[],[], .returned (.p (i64 ((i+1:Nat):Int))),rrH ws (q+1) false,rfl,sk,sk,_,q+1,false,q1l,?_,rfl,rfl⟩
   obtain⟨rfl,c2⟩:=c
   show qJM ws q=_
   rw [qTa hi (fun j hj e=>i2 j hj ⟨rfl,e⟩) c2];rfl
  ·refine(qAy ws q b (sg i) hg hq s1 s2).holds.useT [] [] rfl (sk) (sk) fun e0 H0 hq=>?_
   obtain⟨rfl,rfl⟩:=hq.2 c
   refine⟨rfl,_,⟨2,(0,rrO ws q b)::[(1,sgO)]⟩,rfl,rfl,?_⟩
   refine⟨_,w6z,?_⟩
   refine⟨i+1,⟨by omega,fun j hj=>?_⟩,qAC [] [] [] rfl (sk) (sk) rfl,by show 4 - (i+1)<4 - i;omega⟩
   rcases Nat.lt_or_eq_of_le (Nat.le_of_lt_succ hj) with h | h
   ·exact i2 j h
   ·rw [h];exact c
 ·have h1:¬ (i:Int)<4:=h1
  have:i=4:=by omega
  subst this
  refine⟨[],[],[], .returned (.p (i64 0)),rrH ws q true,rfl,sk,sk,0,q,true,hq,?_,rfl,rfl⟩
  cases b
  ·show qJM ws q=_
   rw [qVL (fun j hj e=>i2 j hj ⟨rfl,e⟩)];rfl
  ·exact Out.bad
def qRL:List Int→Int→Bool→List Int
 | [],n,d=>if d=true then [] else [n]
 | x::l,n,d=>(if n≤x∧d=false then [n] else [])++((if x=n then [] else [x])++qRL l n (d || decide (n≤x)))
theorem qHl {n:Int}:∀ {l:List Int},(∀ y∈l,n<y)→qRL l n true=l
 | [],_=>rfl
 | x::l,h=>by
  have hx:=h x (List.mem_cons_self ..)
  rw [qRL,if_neg (by simp),if_neg (by omega),Bool.true_or,qHl fun y hy=>h y (List.mem_cons_of_mem _ hy)];rfl
theorem qNN {n:Int}:∀ {l:List Int},Inc l→qRL l n false=qHk l n
 | [],_=>rfl
 | x::l,h=>by
  have h1:∀ y∈l,x<y:=(List.pairwise_cons.1 h).1
  have h2:Inc l:=(List.pairwise_cons.1 h).2
  rw [qRL,qHk]
  by_cases c:n<x
  ·rw [if_pos ⟨by omega,rfl⟩,if_neg (by omega),if_pos c,decide_eq_true (by omega),Bool.or_true,qHl fun y hy=>by have:=h1 y hy;omega];rfl
  ·by_cases c2:x=n
   ·rw [if_pos ⟨by omega,rfl⟩,if_pos c2,if_neg c,if_pos c2,decide_eq_true (by omega),Bool.or_true,qHl fun y hy=>by have:=h1 y hy;omega,c2];rfl
   ·rw [if_neg (by omega),if_neg c2,if_neg c,if_neg c2,decide_eq_false (by omega),Bool.or_false,qNN h2];rfl
theorem qQP {l:List Int} {n:Int} {k:Nat} {d:Bool} (hk:k<l.length):qRL (l.drop k) n d=(if n≤l.getD k 0∧d=false then [n] else [])++((if l.getD k 0=n then [] else [l.getD k 0])++qRL (l.drop (k+1)) n (d || decide (n≤l.getD k 0))):=by
 rw [List.drop_eq_getElem_cons hk,qRL,List.getD_eq_getElem?_getD,List.getElem?_eq_getElem hk];rfl
theorem qNM (l:List Int) (n:Int) (hi:Inc l) (hl:l.length≤5000):Pure cx 210 [ints l,i64 n] (·=.ret [ints (qHk l n)]):=by
 refine qAB Tryz.func210 rfl rfl rfl ?_
 refine⟨Nat × List Int × Bool,fun x=>[(0, .p (ints l)),(1, .p (i64 n)),(5, .sl 0 1 0 x.2.1.length),(6,vB x.2.2),(7, .p (i64 x.1))],fun x=>⟨1,[(0,iO x.2.1)]⟩,fun x=>x.1≤l.length∧x.2.1.length≤2 * x.1∧x.2.1++qRL (l.drop x.1) n x.2.2=qHk l n,fun x=>l.length - x.1,?_,?_⟩
 ·exact⟨(0,[],false),⟨by simp,by simp,qNN hi⟩,qAC [] [] [(0,1)] rfl (sk) (sk) rfl⟩
 rintro⟨k,acc,d⟩ ⟨g1,g2,g3⟩
 simp only [] at g1 g2 g3
 (first | refine qAP (fun h1=>?_) (fun h1=>?_) | refine qAQ (fun h1=>?_) (fun h1=>?_) | refine qAR (fun h1=>?_) (fun h1=>?_))
 rotate_left
 ·have h1:¬ (k:Int)<((l.map i64).length:Nat):=h1
  rw [List.length_map] at h1
  rw [List.drop_eq_nil_of_le (by omega),qRL] at g3
  cases d
  ·rw [if_neg (by decide)] at g3
   refine⟨by show 0+1≤1;omega,[i64 n],rfl,?_⟩
   refine⟨by show 0+acc.length≤(acc.map i64).length;simp,acc.map i64,qAD (by simp),by show(acc.length+1) * 8≤140737488355328;omega,(acc++[n]).map i64,by simp,?_⟩
   exact qXU (ints (acc++[n])) rfl ⟨_,rfl,by show 0+(acc.length+1)≤((acc++[n]).map i64).length;simp,qAD (by simp)⟩ (by rw [g3])
  ·rw [if_pos rfl,List.append_nil] at g3
   exact qXU (ints acc) rfl ⟨_,rfl,by show 0+acc.length≤(acc.map i64).length;simp,qAD (by simp)⟩ (by rw [g3])
 have h1:(k:Int)<((l.map i64).length:Nat):=h1
 rw [List.length_map] at h1
 have hk:k<l.length:=by omega
 rw [qQP hk] at g3
 obtain⟨x,hx⟩:∃ x,x=l.getD k 0:=⟨_,rfl⟩
 rw [← hx] at g3
 have hc:=qED hk
 rw [← hx] at hc
 refine⟨_,⟨by omega,i64 x,hc,rfl⟩,?_⟩
 by_cases c1:n≤x∧d=false
 ·obtain⟨c1,rfl⟩:=c1
  rw [if_pos ⟨c1,rfl⟩,decide_eq_true c1,Bool.or_true] at g3
  refine And.intro (fun _=>?_) (fun h=>absurd c1 h)
  refine⟨by show 0+1≤1;omega,[i64 n],rfl,?_⟩
  refine⟨by show 0+acc.length≤(acc.map i64).length;simp,acc.map i64,qAD (by simp),by show(acc.length+1) * 8≤140737488355328;omega,(acc++[n]).map i64,by simp,?_⟩
  refine⟨_,⟨by omega,i64 x,hc,rfl⟩,?_⟩
  refine And.intro (fun c2=>?_) (fun c2=>?_)
  ·have c2:x=n:=c2
   rw [if_pos c2] at g3
   refine⟨_,w6z,?_⟩
   exact⟨(k+1,acc++[n],true),⟨by simp only [];omega,by simp only [qAJ];omega,by simp only [];rw [← g3,List.append_assoc,List.nil_append]⟩,qAC [] [(0,2)] [] rfl ⟨rfl,rfl,congrArg (fun n=>AV.sl 2 1 0 n) (qAJ acc _).symm,rfl,rfl,trivial⟩ (sk) rfl,by show l.length - (k+1)<l.length - k;omega⟩
  ·have c2:¬ x=n:=c2
   rw [if_neg c2] at g3
   refine⟨_,⟨by omega,i64 x,hc,rfl⟩,?_⟩
   refine⟨by show 0+1≤1;omega,[i64 x],rfl,?_⟩
   refine⟨by show 0+(acc.length+1)≤((acc++[n]).map i64).length;simp,(acc++[n]).map i64,qAD (by simp),by show(acc.length+1+1) * 8≤140737488355328;omega,(acc++[n]++[x]).map i64,by simp,?_⟩
   refine⟨_,w6z,?_⟩
   exact⟨(k+1,acc++[n]++[x],true),⟨by simp only [];omega,by simp only [qAJ];omega,by simp only [];rw [← g3,List.append_assoc,List.append_assoc]⟩,qAC [] [(0,4)] [] rfl ⟨rfl,rfl,congrArg (fun n=>AV.sl 4 1 0 n) (by show acc.length+1+1=(acc++[n]++[x]).length;simp),rfl,rfl,trivial⟩ (sk) rfl,by show l.length - (k+1)<l.length - k;omega⟩
 rw [if_neg c1] at g3
 have both:(d || decide (n≤x))=d:=by
  by_cases c:n≤x
  ·have:d=true:=by
    cases d
    ·exact absurd ⟨c,rfl⟩ c1
    ·rfl
   subst this;rfl
  ·rw [decide_eq_false c,Bool.or_false]
 rw [both,List.nil_append] at g3
 cases d
 ·refine And.intro (fun h=>absurd ⟨h,rfl⟩ c1) (fun _=>?_)
  refine⟨_,⟨by omega,i64 x,hc,rfl⟩,?_⟩
  refine And.intro (fun c2=>?_) (fun c2=>?_)
  ·have c2:x=n:=c2
   rw [if_pos c2] at g3
   refine⟨_,w6z,?_⟩
   exact⟨(k+1,acc,false),⟨by simp only [];omega,by simp only [];omega,by simp only [];rw [← g3];rfl⟩,qAC [] [] [] rfl (sk) (sk) rfl,by show l.length - (k+1)<l.length - k;omega⟩
  ·have c2:¬ x=n:=c2
   rw [if_neg c2] at g3
   refine⟨_,⟨by omega,i64 x,hc,rfl⟩,?_⟩
   refine⟨by show 0+1≤1;omega,[i64 x],rfl,?_⟩
   refine⟨by show 0+acc.length≤(acc.map i64).length;simp,acc.map i64,qAD (by simp),by show(acc.length+1) * 8≤140737488355328;omega,(acc++[x]).map i64,by simp,?_⟩
   refine⟨_,w6z,?_⟩
   exact⟨(k+1,acc++[x],false),⟨by simp only [];omega,by simp only [qAJ];omega,by simp only [];rw [← g3,List.append_assoc]⟩,qAC [] [(0,2)] [] rfl ⟨rfl,rfl,congrArg (fun n=>AV.sl 2 1 0 n) (qAJ acc _).symm,rfl,rfl,trivial⟩ (sk) rfl,by show l.length - (k+1)<l.length - k;omega⟩
 ·refine And.intro (fun _=>?_) (fun _=>?_)
  ·refine⟨_,⟨by omega,i64 x,hc,rfl⟩,?_⟩
   refine And.intro (fun c2=>?_) (fun c2=>?_)
   ·have c2:x=n:=c2
    rw [if_pos c2] at g3
    refine⟨_,w6z,?_⟩
    exact⟨(k+1,acc,true),⟨by simp only [];omega,by simp only [];omega,by simp only [];rw [← g3];rfl⟩,qAC [] [] [] rfl (sk) (sk) rfl,by show l.length - (k+1)<l.length - k;omega⟩
   ·have c2:¬ x=n:=c2
    rw [if_neg c2] at g3
    refine⟨_,⟨by omega,i64 x,hc,rfl⟩,?_⟩
    refine⟨by show 0+1≤1;omega,[i64 x],rfl,?_⟩
    refine⟨by show 0+acc.length≤(acc.map i64).length;simp,acc.map i64,qAD (by simp),by show(acc.length+1) * 8≤140737488355328;omega,(acc++[x]).map i64,by simp,?_⟩
    refine⟨_,w6z,?_⟩
    exact⟨(k+1,acc++[x],true),⟨by simp only [];omega,by simp only [qAJ];omega,by simp only [];rw [← g3,List.append_assoc]⟩,qAC [] [(0,2)] [] rfl ⟨rfl,rfl,congrArg (fun n=>AV.sl 2 1 0 n) (qAJ acc _).symm,rfl,rfl,trivial⟩ (sk) rfl,by show l.length - (k+1)<l.length - k;omega⟩
  ·refine⟨_,⟨by omega,i64 x,hc,rfl⟩,?_⟩
   refine And.intro (fun c2=>?_) (fun c2=>?_)
   ·have c2:x=n:=c2
    rw [if_pos c2] at g3
    refine⟨_,w6z,?_⟩
    exact⟨(k+1,acc,true),⟨by simp only [];omega,by simp only [];omega,by simp only [];rw [← g3];rfl⟩,qAC [] [] [] rfl (sk) (sk) rfl,by show l.length - (k+1)<l.length - k;omega⟩
   ·have c2:¬ x=n:=c2
    rw [if_neg c2] at g3
    refine⟨_,⟨by omega,i64 x,hc,rfl⟩,?_⟩
    refine⟨by show 0+1≤1;omega,[i64 x],rfl,?_⟩
    refine⟨by show 0+acc.length≤(acc.map i64).length;simp,acc.map i64,qAD (by simp),by show(acc.length+1) * 8≤140737488355328;omega,(acc++[x]).map i64,by simp,?_⟩
    refine⟨_,w6z,?_⟩
    exact⟨(k+1,acc++[x],true),⟨by simp only [];omega,by simp only [qAJ];omega,by simp only [];rw [← g3,List.append_assoc]⟩,qAC [] [(0,2)] [] rfl ⟨rfl,rfl,congrArg (fun n=>AV.sl 2 1 0 n) (qAJ acc _).symm,rfl,rfl,trivial⟩ (sk) rfl,by show l.length - (k+1)<l.length - k;omega⟩
theorem qQS {l:List (List UInt8)} {s:List UInt8} (h:inL l s=true):s∈l:=by
 induction l with
 | nil=>simp [inL] at h
 | cons x r ih=>
  simp only [inL,Bool.or_eq_true,decide_eq_true_eq] at h
  rcases h with rfl | h
  ·simp
  ·exact List.mem_cons_of_mem _ (ih h)
theorem qHM {k:Int} {t:List UInt8} (h:qAz k t=true):1≤t.length∧t.length≤10:=by
 have ne:∀ {t:List UInt8},t ≠ []→1≤t.length:=by intro t ht;cases t <;> simp at ht ⊢
 unfold qAz at h
 split at h
 ·simp [qAp] at h;exact⟨ne h.1.1.1.1,h.1.1.1.2⟩
 ·split at h
  ·exact(by decide:∀ t∈keysL,1≤t.length∧t.length≤10) t (qQS h)
  ·split at h
   ·simp [qJY] at h
    exact⟨ne h.1.1.1,by omega⟩
   ·split at h
    ·exact(by decide:∀ t∈marksL,1≤t.length∧t.length≤10) t (qQS h)
    ·cases h
theorem qL4 {w:Wd} (h:checkN w=true):1≤w.line∧w.line≤8000∧1≤w.col∧w.col≤8000∧1≤w.text.length∧w.text.length≤10:=by
 simp only [checkN,Bool.and_eq_true,decide_eq_true_eq] at h
 obtain⟨h1,h2,h3,h4,h5⟩:=h
 exact⟨h1,h2,h3,h4,qHM h5⟩
def qGo (l c:Nat) (w:Wd):List UInt8:=List.replicate (w.line.toNat - l) 10++List.replicate (w.col.toNat - (if l<w.line.toNat then 1 else c)) 32
theorem qNR {l c:Nat} {w:Wd} (h:l<w.line.toNat):qGo l c w=10::qGo (l+1) 1 w:=by
 simp only [qGo,if_pos h]
 rw [show w.line.toNat - l=(w.line.toNat - (l+1))+1 by omega,List.replicate_succ]
 simp
theorem qQU {l c:Nat} {w:Wd} (h:¬ l<w.line.toNat) (hc:c<w.col.toNat):qGo l c w=32::qGo l (c+1) w:=by
 simp only [qGo,if_neg h]
 rw [show w.line.toNat - l=0 by omega,show w.col.toNat - c=(w.col.toNat - (c+1))+1 by omega,List.replicate_succ]
 simp
theorem qQT {l c:Nat} {w:Wd} (h:¬ l<w.line.toNat) (hc:¬ c<w.col.toNat):qGo l c w=[]:=by
 simp only [qGo,if_neg h]
 rw [show w.line.toNat - l=0 by omega,show w.col.toNat - c=0 by omega]
 simp
theorem qUB (l c:Nat) (w:Wd):(qGo l c w).length=(w.line.toNat - l)+(w.col.toNat - (if l<w.line.toNat then 1 else c)):=by simp [qGo]
def qN7:Nat→Nat→List Wd→Option (List UInt8)
 | _,_,[]=>some []
 | l,c,w::r=>if w.line.toNat<l∨w.line.toNat=l∧w.col.toNat<c then none
  else(qN7 w.line.toNat (w.col.toNat+w.text.length) r).map (qGo l c w++w.text++·)
theorem qKj {α:Type} {l:List α} {k:Nat} (h:k<l.length):l.drop k=l[k]::l.drop (k+1):=List.drop_eq_getElem_cons h
theorem qU4 {l:List Wd} {k:Nat} (h:k<l.length):(l.map Wd.cells)[k]?=some l[k].cells:=by
 rw [List.getElem?_map,List.getElem?_eq_getElem h];rfl
def qXV (acc:List UInt8):AObj:=⟨5,false, .pu (acc.map ub)⟩
def wdO (w:Wd):AObj:=⟨72,false, .bx (w.cells.map .p)⟩
theorem qMs:∀ (f:Nat) (s:List UInt8) (k:Nat) (acc ws:List Wd),acc.length≤1500→qDT f s k acc=.ok ws→ws.length≤1500
 | 0,s,k,acc,ws,ha,h=>by simp only [qDT,RdR.ok.injEq] at h;subst h;exact ha
 | f+1,s,k,acc,ws,ha,h=>by
  rw [qDT] at h
  split at h
  ·cases h
  ·rw [qGr] at h
   split at h
   ·injection h with h;subst h;exact ha
   ·split at h
    ·cases h
    ·split at h
     ·cases h
     ·exact qMs f s _ _ ws (by simp;omega) h
theorem qKG:∀ (f:Nat) (s:List UInt8) (k:Nat) (acc:List Wd) (p:Nat × Nat) (c:Int),qDT f s k acc=.err p c→c=370∨c=3
 | 0,s,k,acc,p,c,h=>by simp [qDT] at h
 | f+1,s,k,acc,p,c,h=>by
  rw [qDT] at h
  split at h
  ·injection h with h1 h2;exact .inl h2.symm
  ·rw [qGr] at h
   split at h
   ·cases h
   ·split at h
    ·injection h with h1 h2;exact .inl h2.symm
    ·split at h
     ·injection h with h1 h2;exact .inr h2.symm
     ·exact qKG f s _ _ p c h
theorem qRn {s:List UInt8} {ws:List Wd} (h:qEJ s=.ok ws):ws.length≤1500:=qMs _ _ _ _ _ (by simp) h
theorem qPZ {s:List UInt8} {p:Nat × Nat} {c:Int} (h:qEJ s=.err p c):c=370∨c=3:=qKG _ _ _ _ _ _ h
theorem rdC (r:RdR):(∃ ws,r=.ok ws)∨∃ p c,r=.err p c:=by
 cases r with
 | ok ws=>exact .inl ⟨ws,rfl⟩
 | err p c=>exact .inr ⟨p,c,rfl⟩
def qFF (l:List Wd):List UInt8 × Int:=
 if 1500<l.length then([],3)
 else if l.all checkN=false then([],370)
 else match qN7 1 1 l with
  | none=>([],371)
  | some t=>if 8000<t.length then([],3)
   else match qEJ t with
    | .ok ws=>if ws=l then(t,0) else([],371)
    | .err _ _=>([],371)
def qR5 (l:List Wd):List PV:=[.str (qFF l).1,i64 (qFF l).2]
theorem qDH {l:List Wd} {t:List UInt8} {c:Int} (h:qFF l=(t,c)):PEnd.ret [.str t,i64 c]=.ret (qR5 l):=by rw [qR5,h]
theorem qSQ {l:List Wd} {k:Nat} (h:∀ w∈l.take k,checkN w=true) (hk:l.length≤k):∀ w∈l,checkN w=true:=by
 rw [List.take_of_length_le hk] at h;exact h
theorem qSR {l:List Wd} {k:Nat} (h:∀ w∈l.take k,checkN w=true) (hk:k<l.length) (hw:checkN l[k]=true):∀ w∈l.take (k+1),checkN w=true:=by
 intro w hm
 rw [List.take_add_one,List.getElem?_eq_getElem hk] at hm
 rcases List.mem_append.1 hm with hm | hm
 ·exact h w hm
 ·simp at hm;subst hm;exact hw
theorem qVu (a b:Nat) {w:Wd} (h1:w.line≤8000) (h2:w.col≤8000):(qGo a b w).length≤16000:=by
 rw [qUB];split <;> omega
theorem qF5 {xs:List UInt8} {n:Nat}:(xs.take n).map ub=((xs.map ub).drop 0).take n:=by rw [List.drop_zero,List.map_take]
structure JS where
 k:Nat
 a:Nat
 b:Nat
 lg:Nat
 n:Nat
 xs:List UInt8
 pre:List UInt8
structure JI where
 a:Nat
 b:Nat
 n:Nat
 xs:List UInt8
def jSl (l:List Wd) (k a b lg n:Nat):List (Nat × AV):=[(0, .p (.lsts 4 (l.map Wd.cells))),(5, .p (i64 a)),(6, .p (i64 b)),(7, .p (i64 lg)),(8, .sl 0 1 0 n),(9, .p (i64 k))]
def qWR (l:List Wd) (k a b lg n:Nat):List (Nat × AV):=(10, .ptr 1 0 0)::jSl l k a b lg n
def jHp (xs:List UInt8):Hp:=⟨1,[(0,qXV xs)]⟩
def qWS (xs:List UInt8) (w:Wd):Hp:=⟨2,[(1,wdO w),(0,qXV xs)]⟩
theorem qTl (l:List Wd) (ht:∀ w∈l,w.text.length≤100000):Pure cx 18 [.lsts 4 (l.map Wd.cells)] (·=.ret (qR5 l)):=by
 refine qAB Tryz.func18 rfl rfl rfl ?_
 refine And.intro (fun h1=>?_) (fun h1=>?_)
 ·have h1:(1500:Int)<((l.map Wd.cells).length:Nat):=h1
  rw [List.length_map] at h1
  exact qDJ _ _ rfl rfl rfl (qDH (by rw [qFF,if_pos (by omega)]))
 ·have h1:¬ (1500:Int)<((l.map Wd.cells).length:Nat):=h1
  rw [List.length_map] at h1
  refine⟨Nat,fun k=>[(0, .p (.lsts 4 (l.map Wd.cells))),(4, .p (i64 k))],fun _=>⟨0,[]⟩,fun k=>k≤l.length∧∀ w∈l.take k,checkN w=true,fun k=>l.length - k,?_,?_⟩
  ·exact⟨0,⟨by omega,by simp⟩,qB1 rfl ⟨rfl,rfl,trivial⟩ trivial rfl⟩
  ·rintro k ⟨hk0,hall⟩
   refine And.intro (fun h2=>?_) (fun h2=>?_)
   ·have h2:(k:Int)<((l.map Wd.cells).length:Nat):=h2
    rw [List.length_map] at h2
    have hk:k<l.length:=by omega
    refine⟨_,⟨by omega,l[k].cells,qU4 hk,rfl⟩,?_⟩
    have hP:=qPb l[k] (Nat.le_trans (ht _ (List.getElem_mem hk)) (by decide))
    by_cases hw:checkN l[k]=true
    ·rw [hw] at hP
     refine hP.eq rfl ?_
     refine⟨(k:Int)+1,w6z,k+1,⟨hk,qSR hall hk hw⟩,qAC [] [] [] rfl ⟨rfl,rfl,trivial⟩ trivial rfl,?_⟩
     show l.length - (k+1)<l.length - k
     omega
    ·rw [Bool.not_eq_true] at hw
     rw [hw] at hP
     refine hP.eq rfl ?_
     exact qDJ _ _ rfl rfl rfl (qDH (by rw [qFF,if_neg (by omega),if_pos];rw [List.all_eq_false];exact⟨_,List.getElem_mem hk,by rw [hw];simp⟩))
   ·have h2:¬ (k:Int)<((l.map Wd.cells).length:Nat):=h2
    rw [List.length_map] at h2
    have hall:=qSQ hall (by omega)
    have hall':¬ l.all checkN=false:=by rw [Bool.not_eq_false,List.all_eq_true];exact hall
    clear hk0 h2
    refine⟨JS,fun x=>jSl l x.k x.a x.b x.lg x.n,fun x=>jHp x.xs,fun x=>x.k≤l.length∧(1≤x.a∧x.a≤8000∧1≤x.b∧x.b≤8010)∧x.n≤x.xs.length∧x.n≤8000∧(x.lg=0∧x.xs.take x.n=x.pre∨x.lg=1∧8000<x.pre.length)∧qN7 1 1 l=(qN7 x.a x.b (l.drop x.k)).map (x.pre++·),fun x=>l.length - x.k,?_,?_⟩
    ·exact⟨⟨0,1,1,0,0,[],[]⟩,⟨by simp,by simp,by simp,by simp,by simp,by simp⟩,qAC [] [] [(0,1)] rfl (sk) (sk) rfl⟩
    ·rintro⟨k,a,b,lg,n,xs,pre⟩ ⟨g1,⟨g2,g3,g4,g5⟩,g6,g7,g8,g9⟩
     simp only [] at g1 g2 g3 g4 g5 g6 g7 g8 g9
     refine And.intro (fun h2=>?_) (fun h2=>?_)
     ·have h2:(k:Int)<((l.map Wd.cells).length:Nat):=h2
      rw [List.length_map] at h2
      have hk:k<l.length:=by omega
      refine⟨_,⟨by omega,l[k].cells,qU4 hk,rfl⟩,?_⟩
      rw [qKj hk] at g9
      obtain⟨f1,f2,f3,f4,f5,f6⟩:=qL4 (hall l[k] (List.getElem_mem hk))
      generalize l[k]=w at g9 f1 f2 f3 f4 f5 f6 ⊢
      have bad:w.line.toNat<a∨w.line.toNat=a∧w.col.toNat<b→qFF l=([],371):=by
       intro hb
       rw [qN7,if_pos hb] at g9
       rw [qFF,if_neg (by omega),if_neg hall',g9]
       rfl
      have hgl:=qVu a b f2 f4
      refine And.intro (fun h3=>?_) (fun h3=>?_)
      ·have h3:w.line<a:=h3
       exact qDJ _ _ rfl rfl rfl (qDH (bad (by omega)))
      ·have h3:¬ w.line<a:=h3
       refine And.intro (fun h4=>?_) (fun h4=>?_)
       ·have h4:w.line=a:=h4
        refine And.intro (fun h5=>?_) (fun h5=>?_)
        ·have h5:w.col<b:=h5
         exact qDJ _ _ rfl rfl rfl (qDH (bad (by omega)))
        ·have h5:¬ w.col<b:=h5
         have hnb:¬ (w.line.toNat<a∨w.line.toNat=a∧w.col.toNat<b):=by omega
         rw [qN7,if_neg hnb,Option.map_map] at g9
         refine⟨JI,fun x=>qWR l k x.a x.b lg x.n,fun x=>qWS x.xs w,fun x=>(1≤x.a∧x.a≤8000∧1≤x.b∧x.b≤8010)∧¬ (w.line.toNat<x.a∨w.line.toNat=x.a∧w.col.toNat<x.b)∧x.n≤x.xs.length∧x.xs.take x.n++qGo x.a x.b w=xs.take n++qGo a b w,fun x=>w.line.toNat - x.a,?_,?_⟩
         ·exact⟨⟨a,b,n,xs⟩,⟨⟨g2,g3,g4,g5⟩,hnb,g6,rfl⟩,qAC [] [] [] rfl (sk) (sk) rfl⟩
         ·rintro⟨a1,b1,n1,xs1⟩ ⟨⟨q1,q2,q3,q4⟩,q5,q6,q7⟩
          simp only [] at q1 q2 q3 q4 q5 q6 q7
          have hl1:=congrArg List.length q7
          simp only [List.length_append,List.length_take,Nat.min_eq_left q6,Nat.min_eq_left g6] at hl1
          refine And.intro (fun h6=>?_) (fun h6=>?_)
          ·have h6:(a1:Int)<w.line:=h6
           refine⟨by show 0+1≤1;omega,[ub 10],rfl,?_⟩
           refine⟨by show 0+n1≤(xs1.map ub).length;rw [List.length_map];omega,(xs1.take n1).map ub,qF5,by show(n1+1) * 1≤140737488355328;omega,(xs1.take n1++[10]).map ub,by simp,?_⟩
           refine⟨(a1:Int)+1,w6z,⟨a1+1,1,n1+1,xs1.take n1++[10]⟩,⟨⟨by simp only [];omega,by simp only [];omega,by simp only [];omega,by simp only [];omega⟩,by simp only [];omega,by simp;omega,?_⟩,qAC [] [(0,3)] [] rfl (sk) (sk) rfl,by simp only [];omega⟩
           simp only []
           rw [← q7,qNR (l:=a1) (c:=b1) (by omega),List.take_of_length_le (by simp;omega)]
           simp
          ·have h6:¬ (a1:Int)<w.line:=h6
           refine⟨JI,fun x=>qWR l k a1 x.b lg x.n,fun x=>qWS x.xs w,fun x=>(1≤x.b∧x.b≤8010)∧¬ w.col.toNat<x.b∧x.n≤x.xs.length∧x.xs.take x.n++qGo a1 x.b w=xs.take n++qGo a b w,fun x=>w.col.toNat - x.b,?_,?_⟩
           ·exact⟨⟨a1,b1,n1,xs1⟩,⟨⟨q3,q4⟩,by simp only [];omega,q6,q7⟩,qAC [] [] [] rfl (sk) (sk) rfl⟩
           ·rintro⟨a2,b2,n2,xs2⟩ ⟨⟨u1,u2⟩,u3,u4,u5⟩
            simp only [] at u1 u2 u3 u4 u5
            have hl2:=congrArg List.length u5
            simp only [List.length_append,List.length_take,Nat.min_eq_left u4,Nat.min_eq_left g6] at hl2
            refine And.intro (fun h7=>?_) (fun h7=>?_)
            ·have h7:(b2:Int)<w.col:=h7
             refine⟨by show 0+1≤1;omega,[ub 32],rfl,?_⟩
             refine⟨by show 0+n2≤(xs2.map ub).length;rw [List.length_map];omega,(xs2.take n2).map ub,qF5,by show(n2+1) * 1≤140737488355328;omega,(xs2.take n2++[32]).map ub,by simp,?_⟩
             refine⟨(b2:Int)+1,w6z,⟨0,b2+1,n2+1,xs2.take n2++[32]⟩,⟨⟨by simp only [];omega,by simp only [];omega⟩,by simp only [];omega,by simp;omega,?_⟩,qAC [] [(0,3)] [] rfl (sk) (sk) rfl,by simp only [];omega⟩
             simp only []
             rw [← u5,qQU (l:=a1) (c:=b2) (by omega) (by omega),List.take_of_length_le (by simp;omega)]
             simp
            ·have h7:¬ (b2:Int)<w.col:=h7
             rw [qQT (l:=a1) (c:=b2) (by omega) (by omega),List.append_nil] at u5
             refine⟨by show 0+n2≤(xs2.map ub).length;rw [List.length_map];omega,(xs2.take n2).map ub,qF5,by show(n2+w.text.length) * 1≤140737488355328;omega,(xs2.take n2++w.text).map ub,by simp,?_⟩
             refine⟨(b2:Int)+(w.text.length:Nat),w6z,?_⟩
             have e1:w.line.toNat=a1:=by omega
             have e2:w.col.toNat=b2:=by omega
             rw [e1,e2] at g9
             have hcat:(xs2.take n2++w.text).take (n2+w.text.length)=xs2.take n2++w.text:=List.take_of_length_le (by simp;omega)
             have hnl:(xs2.take n2).length=n2:=by rw [List.length_take];omega
             have g9':qN7 1 1 l=(qN7 a1 (b2+w.text.length) (l.drop (k+1))).map ((pre++(qGo a b w++w.text))++·):=by rw [g9];congr 1;funext x;simp
             refine And.intro (fun h8=>?_) (fun h8=>?_)
             ·have h8:(8000:Int)<((n2+w.text.length:Nat):Int):=h8
              refine⟨by show(0:Int)≤0∧(0:Int)≤((n2+w.text.length:Nat):Int);omega,?_⟩
              refine⟨(k:Int)+1,w6z,⟨k+1,a1,b2+w.text.length,1,0,xs2.take n2++w.text,pre++(qGo a b w++w.text)⟩,⟨hk,⟨q1,q2,by simp only [];omega,by simp only [];omega⟩,by simp,by simp, .inr ⟨rfl,?_⟩,g9'⟩,qAC [] [(0,2)] [] rfl (sk) (sk) rfl,by simp only [];omega⟩
              simp only [List.length_append]
              rcases g8 with ⟨_,g8⟩ | ⟨_,g8⟩
              ·rw [← g8,List.length_take];omega
              ·omega
             ·have h8:¬ (8000:Int)<((n2+w.text.length:Nat):Int):=h8
              refine⟨(k:Int)+1,w6z,⟨k+1,a1,b2+w.text.length,lg,n2+w.text.length,xs2.take n2++w.text,pre++(qGo a b w++w.text)⟩,⟨hk,⟨q1,q2,by simp only [];omega,by simp only [];omega⟩,by simp only [List.length_append];omega,by simp only [];omega,?_,g9'⟩,qAC [] [(0,2)] [] rfl (sk) (sk) rfl,by simp only [];omega⟩
              simp only []
              rcases g8 with ⟨g8',g8⟩ | ⟨g8',g8⟩
              ·exact .inl ⟨g8',by rw [hcat,u5,g8];simp⟩
              ·exact .inr ⟨g8',by simp only [List.length_append];omega⟩
       ·have h4:¬ w.line=a:=h4
        have hnb:¬ (w.line.toNat<a∨w.line.toNat=a∧w.col.toNat<b):=by omega
        rw [qN7,if_neg hnb,Option.map_map] at g9
        refine⟨JI,fun x=>qWR l k x.a x.b lg x.n,fun x=>qWS x.xs w,fun x=>(1≤x.a∧x.a≤8000∧1≤x.b∧x.b≤8010)∧¬ (w.line.toNat<x.a∨w.line.toNat=x.a∧w.col.toNat<x.b)∧x.n≤x.xs.length∧x.xs.take x.n++qGo x.a x.b w=xs.take n++qGo a b w,fun x=>w.line.toNat - x.a,?_,?_⟩
        ·exact⟨⟨a,b,n,xs⟩,⟨⟨g2,g3,g4,g5⟩,hnb,g6,rfl⟩,qAC [] [] [] rfl (sk) (sk) rfl⟩
        ·rintro⟨a1,b1,n1,xs1⟩ ⟨⟨q1,q2,q3,q4⟩,q5,q6,q7⟩
         simp only [] at q1 q2 q3 q4 q5 q6 q7
         have hl1:=congrArg List.length q7
         simp only [List.length_append,List.length_take,Nat.min_eq_left q6,Nat.min_eq_left g6] at hl1
         refine And.intro (fun h6=>?_) (fun h6=>?_)
         ·have h6:(a1:Int)<w.line:=h6
          refine⟨by show 0+1≤1;omega,[ub 10],rfl,?_⟩
          refine⟨by show 0+n1≤(xs1.map ub).length;rw [List.length_map];omega,(xs1.take n1).map ub,qF5,by show(n1+1) * 1≤140737488355328;omega,(xs1.take n1++[10]).map ub,by simp,?_⟩
          refine⟨(a1:Int)+1,w6z,⟨a1+1,1,n1+1,xs1.take n1++[10]⟩,⟨⟨by simp only [];omega,by simp only [];omega,by simp only [];omega,by simp only [];omega⟩,by simp only [];omega,by simp;omega,?_⟩,qAC [] [(0,3)] [] rfl (sk) (sk) rfl,by simp only [];omega⟩
          simp only []
          rw [← q7,qNR (l:=a1) (c:=b1) (by omega),List.take_of_length_le (by simp;omega)]
          simp
         ·have h6:¬ (a1:Int)<w.line:=h6
          refine⟨JI,fun x=>qWR l k a1 x.b lg x.n,fun x=>qWS x.xs w,fun x=>(1≤x.b∧x.b≤8010)∧¬ w.col.toNat<x.b∧x.n≤x.xs.length∧x.xs.take x.n++qGo a1 x.b w=xs.take n++qGo a b w,fun x=>w.col.toNat - x.b,?_,?_⟩
          ·exact⟨⟨a1,b1,n1,xs1⟩,⟨⟨q3,q4⟩,by simp only [];omega,q6,q7⟩,qAC [] [] [] rfl (sk) (sk) rfl⟩
          ·rintro⟨a2,b2,n2,xs2⟩ ⟨⟨u1,u2⟩,u3,u4,u5⟩
           simp only [] at u1 u2 u3 u4 u5
           have hl2:=congrArg List.length u5
           simp only [List.length_append,List.length_take,Nat.min_eq_left u4,Nat.min_eq_left g6] at hl2
           refine And.intro (fun h7=>?_) (fun h7=>?_)
           ·have h7:(b2:Int)<w.col:=h7
            refine⟨by show 0+1≤1;omega,[ub 32],rfl,?_⟩
            refine⟨by show 0+n2≤(xs2.map ub).length;rw [List.length_map];omega,(xs2.take n2).map ub,qF5,by show(n2+1) * 1≤140737488355328;omega,(xs2.take n2++[32]).map ub,by simp,?_⟩
            refine⟨(b2:Int)+1,w6z,⟨0,b2+1,n2+1,xs2.take n2++[32]⟩,⟨⟨by simp only [];omega,by simp only [];omega⟩,by simp only [];omega,by simp;omega,?_⟩,qAC [] [(0,3)] [] rfl (sk) (sk) rfl,by simp only [];omega⟩
            simp only []
            rw [← u5,qQU (l:=a1) (c:=b2) (by omega) (by omega),List.take_of_length_le (by simp;omega)]
            simp
           ·have h7:¬ (b2:Int)<w.col:=h7
            rw [qQT (l:=a1) (c:=b2) (by omega) (by omega),List.append_nil] at u5
            refine⟨by show 0+n2≤(xs2.map ub).length;rw [List.length_map];omega,(xs2.take n2).map ub,qF5,by show(n2+w.text.length) * 1≤140737488355328;omega,(xs2.take n2++w.text).map ub,by simp,?_⟩
            refine⟨(b2:Int)+(w.text.length:Nat),w6z,?_⟩
            have e1:w.line.toNat=a1:=by omega
            have e2:w.col.toNat=b2:=by omega
            rw [e1,e2] at g9
            have hcat:(xs2.take n2++w.text).take (n2+w.text.length)=xs2.take n2++w.text:=List.take_of_length_le (by simp;omega)
            have hnl:(xs2.take n2).length=n2:=by rw [List.length_take];omega
            have g9':qN7 1 1 l=(qN7 a1 (b2+w.text.length) (l.drop (k+1))).map ((pre++(qGo a b w++w.text))++·):=by rw [g9];congr 1;funext x;simp
            refine And.intro (fun h8=>?_) (fun h8=>?_)
            ·have h8:(8000:Int)<((n2+w.text.length:Nat):Int):=h8
             refine⟨by show(0:Int)≤0∧(0:Int)≤((n2+w.text.length:Nat):Int);omega,?_⟩
             refine⟨(k:Int)+1,w6z,⟨k+1,a1,b2+w.text.length,1,0,xs2.take n2++w.text,pre++(qGo a b w++w.text)⟩,⟨hk,⟨q1,q2,by simp only [];omega,by simp only [];omega⟩,by simp,by simp, .inr ⟨rfl,?_⟩,g9'⟩,qAC [] [(0,2)] [] rfl (sk) (sk) rfl,by simp only [];omega⟩
             simp only [List.length_append]
             rcases g8 with ⟨_,g8⟩ | ⟨_,g8⟩
             ·rw [← g8,List.length_take];omega
             ·omega
            ·have h8:¬ (8000:Int)<((n2+w.text.length:Nat):Int):=h8
             refine⟨(k:Int)+1,w6z,⟨k+1,a1,b2+w.text.length,lg,n2+w.text.length,xs2.take n2++w.text,pre++(qGo a b w++w.text)⟩,⟨hk,⟨q1,q2,by simp only [];omega,by simp only [];omega⟩,by simp only [List.length_append];omega,by simp only [];omega,?_,g9'⟩,qAC [] [(0,2)] [] rfl (sk) (sk) rfl,by simp only [];omega⟩
             simp only []
             rcases g8 with ⟨g8',g8⟩ | ⟨g8',g8⟩
             ·exact .inl ⟨g8',by rw [hcat,u5,g8];simp⟩
             ·exact .inr ⟨g8',by simp only [List.length_append];omega⟩
     ·have h2:¬ (k:Int)<((l.map Wd.cells).length:Nat):=h2
      rw [List.length_map] at h2
      rw [List.drop_eq_nil_of_le (by omega)] at g9
      have hput:qN7 1 1 l=some pre:=by rw [g9];simp [qN7]
      refine Or.elim g8 (fun g8'=>?_) (fun g8'=>?_)
      ·clear g8
       obtain⟨rfl,g8⟩:=g8'
       refine And.intro (fun h3=>?_) (fun h3=>?_)
       ·have h3:(0:Int)<(0:Nat):=h3
        omega
       ·refine And.intro (fun h4=>?_) (fun h4=>?_)
        ·have h4:(8000:Int)<n:=h4
         omega
        ·obtain⟨T,hTp⟩:∃ T,T=pre:=⟨_,rfl⟩
         rw [← hTp] at hput g8
         have hTl:T.length=n:=by rw [← g8,List.length_take];omega
         have hstr:((xs.map ub).drop 0).take n=T.map ub:=by rw [List.drop_zero,← List.map_take,g8]
         refine⟨_,⟨by show 0+n≤(xs.map ub).length;rw [List.length_map];omega,T,hstr,rfl⟩,?_⟩
         refine Or.elim (rdC (qEJ T)) (fun hn=>Exists.elim hn fun ws hrd=>?_) (fun hn=>Exists.elim hn fun p hn=>Exists.elim hn fun c hrd=>?_)
         ·have hR:=qLR T
          rw [show qCO T=[.lsts 4 (ws.map Wd.cells),i64 0,i64 0,i64 0] by rw [qCO,if_neg (by omega),hrd]] at hR
          refine hR.eq rfl ?_
          refine And.intro (fun h5=>?_) (fun h5=>absurd (show(0:Int)=0 from rfl) h5)
          have hE:=qVI ws l (by have:=qRn hrd;omega) (by omega)
          by_cases he:ws=l
          ·rw [decide_eq_true he] at hE
           refine hE.eq rfl ?_
           refine⟨_,⟨by show 0+n≤(xs.map ub).length;rw [List.length_map];omega,T,hstr,rfl⟩,?_⟩
           exact qDJ _ _ rfl rfl rfl (qDH (by rw [qFF,if_neg (by omega),if_neg hall',hput];simp only [];rw [if_neg (by omega),hrd];simp only [];rw [if_pos he]))
          ·rw [decide_eq_false he] at hE
           refine hE.eq rfl ?_
           exact qDJ _ _ rfl rfl rfl (qDH (by rw [qFF,if_neg (by omega),if_neg hall',hput];simp only [];rw [if_neg (by omega),hrd];simp only [];rw [if_neg he]))
         ·have hR:=qLR T
          rw [show qCO T=[.lsts 4 [],i64 p.1,i64 p.2,i64 c] by rw [qCO,if_neg (by omega),hrd]] at hR
          refine hR.eq rfl ?_
          have hc0:=qPZ hrd
          refine And.intro (fun h5=>?_) (fun h5=>?_)
          ·have h5:c=0:=h5
           omega
          ·exact qDJ _ _ rfl rfl rfl (qDH (by rw [qFF,if_neg (by omega),if_neg hall',hput];simp only [];rw [if_neg (by omega),hrd]))
      ·clear g8
       obtain⟨rfl,g8⟩:=g8'
       refine And.intro (fun h3=>?_) (fun h3=>?_)
       ·exact qDJ _ _ rfl rfl rfl (qDH (by rw [qFF,if_neg (by omega),if_neg hall',hput];simp only [];rw [if_pos (by omega)]))
       ·have h3:¬ (0:Int)<(1:Nat):=h3
        omega
def tenL:List UInt8:=[48,49,50,51,52,53,54,55,56,57]
theorem qMX:∀ n<10,(tenL.drop n).take (n+1 - n)=[tenL.getD n 0]:=by decide
def digN:Nat→Nat→List UInt8
 | 0,_=>[]
 | f+1,n=>if n<10 then [tenL.getD n 0] else digN f (n / 10)++[tenL.getD (n % 10) 0]
theorem qHu:∀ f n,(digN f n).length≤f
 | 0,_=>by simp [digN]
 | f+1,n=>by
  simp only [digN]
  split
  ·simp
  ·have:=qHu f (n / 10)
   simp
   omega
theorem qNa:∀ (f n:Nat),f≤8→n<10 ^ (f+1)→Pure cx 26 [i64 n] (·=.ret [.str (digN (f+1) n)]):=by
 intro f
 induction f with
 | zero=>
  intro n _ h
  refine qAB Tryz.func26 rfl rfl rfl ?_
  refine And.intro (fun h1=>?_) (fun h1=>?_)
  ·have h1:(n:Int)<10:=h1
   refine⟨(n:Int)+1,w6z,?_⟩
   refine⟨by show(0:Int)≤n∧(n:Int)≤(n:Int)+1∧(n:Int)+1≤10;omega,?_⟩
   refine qAF _ rfl rfl ?_
   show PEnd.ret [.str ((tenL.drop n).take (n+1 - n))]=_
   rw [qMX n (by omega),digN.eq_def]
   simp only []
   rw [if_pos (by omega)]
  ·have h1:¬ (n:Int)<10:=h1
   omega
 | succ f ih=>
  intro n hf h
  have hn:n<10 ^ 10:=Nat.lt_of_lt_of_le h (Nat.pow_le_pow_right (by decide) (by omega))
  refine qAB Tryz.func26 rfl rfl rfl ?_
  refine And.intro (fun h1=>?_) (fun h1=>?_)
  ·have h1:(n:Int)<10:=h1
   refine⟨(n:Int)+1,w6z,?_⟩
   refine⟨by show(0:Int)≤n∧(n:Int)≤(n:Int)+1∧(n:Int)+1≤10;omega,?_⟩
   refine qAF _ rfl rfl ?_
   show PEnd.ret [.str ((tenL.drop n).take (n+1 - n))]=_
   rw [qMX n (by omega),digN.eq_def]
   simp only []
   rw [if_pos (by omega)]
  ·have h1:¬ (n:Int)<10:=h1
   refine VDraw.seq rfl ?_
   refine⟨by decide,((n / 10:Nat):Int),?_,?_⟩
   ·show((n / 10:Nat):Int)=IntKind.i64.wrap ((n / 10:Nat):Int)
    exact w6z
   refine⟨by decide,?_⟩
   refine⟨by decide,?_⟩
   refine⟨((n % 10:Nat):Int)+1,?_,?_⟩
   ·show _=IntKind.i64.wrap (((n % 10:Nat):Int)+1)
    exact w6z
   refine⟨by show(0:Int)≤(n % 10:Nat)∧((n % 10:Nat):Int)≤((n % 10:Nat):Int)+1∧((n % 10:Nat):Int)+1≤10;omega,?_⟩
   refine(ih (n / 10) (by omega) (by rw [Nat.pow_succ] at h;omega)).eq rfl ?_
   have hd:=qHu (f+1) (n / 10)
   refine⟨by show(digN (f+1) (n / 10)).length+((tenL.drop (n % 10)).take (n % 10+1 - n % 10)).length≤_;rw [qMX _ (by omega)];simp;omega,?_⟩
   refine qAF _ rfl rfl ?_
   show PEnd.ret [.str (digN (f+1) (n / 10)++(tenL.drop (n % 10)).take (n % 10+1 - n % 10))]=_
   rw [qMX _ (by omega),digN.eq_def (f+1+1)]
   simp only []
   rw [if_neg (by omega)]
structure Dr where
 kind:UInt8
 which:UInt8
 letters:List UInt8
 n:UInt16
 down:UInt8
 over:UInt8
abbrev Dr.cells (d:Dr):List PV:=[u8 d.kind,u8 d.which, .lst (d.letters.map u8), .int .u16 (d.n.toNat:Int),u8 d.down,u8 d.over]
def abcL:List UInt8:=[97,98,88,89,48,57,110,122]
theorem qTE:∀ n<8,(abcL.drop n).take (n+1 - n)=[abcL.getD n 0]:=by decide
def qEO (l:List UInt8):List UInt8:=120::(l.take 9).map fun b=>abcL.getD (b.toNat % 8) 0
def qCj (d:Dr) (k:Int):List UInt8:=
 if k=2 then keysL.getD (d.which.toNat % 14) [] else if k=4 then marksL.getD (d.which.toNat % 16) [] else if k=3 then digN 5 (d.n.toNat % 10000) else qEO d.letters
theorem qNQ {α:Type} {l:List α} {n:Nat} {d:α} (h:n<l.length):l[n]?=some (l.getD n d):=by
 rw [List.getElem?_eq_getElem h,List.getD_eq_getElem?_getD,List.getElem?_eq_getElem h];rfl
theorem qVA (d:Dr) (k:Int):Pure cx 52 [.agg d.cells,i64 k] (·=.ret [.str (qCj d k)]):=by
 refine qAB Tryz.func52 rfl rfl rfl ?_
 have hw:=d.which.toNat_lt
 have hn:=d.n.toNat_lt
 refine And.intro (fun h1=>?_) (fun h1=>?_)
 ·have h1:k=2:=h1
  refine VDraw.seq rfl ?_
  refine⟨(d.which.toNat:Int),w6z,?_⟩
  refine rKeys_c.eq rfl ?_
  refine⟨⟨congrArg (fun z=>AV.p (.int .i64 z)) (w6z),rfl,trivial⟩,?_⟩
  refine rKeys_c.eq rfl ?_
  refine⟨⟨congrArg (fun z=>AV.p (.int .i64 z)) (w6z),rfl,trivial⟩,?_⟩
  refine⟨by decide,?_⟩
  have hk:d.which.toNat % 14<keysL.length:=by show _<14;omega
  refine⟨_,⟨by show(0:Int)≤((d.which.toNat % 14:Nat):Int);omega, .str (keysL.getD (d.which.toNat % 14) []),by show(keysL.map PV.str)[d.which.toNat % 14]?=_;rw [List.getElem?_map,qNQ hk];rfl,rfl⟩,?_⟩
  exact qAF _ rfl rfl (by rw [qCj,if_pos h1])
 ·have h1:¬ k=2:=h1
  refine And.intro (fun h2=>?_) (fun h2=>?_)
  ·have h2:k=4:=h2
   refine VDraw.seq rfl ?_
   refine⟨(d.which.toNat:Int),w6z,?_⟩
   refine rMarks_c.eq rfl ?_
   refine⟨⟨congrArg (fun z=>AV.p (.int .i64 z)) (w6z),rfl,trivial⟩,?_⟩
   refine rMarks_c.eq rfl ?_
   refine⟨⟨congrArg (fun z=>AV.p (.int .i64 z)) (w6z),rfl,trivial⟩,?_⟩
   refine⟨by decide,?_⟩
   have hk:d.which.toNat % 16<marksL.length:=by show _<16;omega
   refine⟨_,⟨by show(0:Int)≤((d.which.toNat % 16:Nat):Int);omega, .str (marksL.getD (d.which.toNat % 16) []),by show(marksL.map PV.str)[d.which.toNat % 16]?=_;rw [List.getElem?_map,qNQ hk];rfl,rfl⟩,?_⟩
   exact qAF _ rfl rfl (by rw [qCj,if_neg h1,if_pos h2])
  ·have h2:¬ k=4:=h2
   refine And.intro (fun h3=>?_) (fun h3=>?_)
   ·have h3:k=3:=h3
    refine⟨(d.n.toNat:Int),w6z,?_⟩
    refine⟨by decide,?_⟩
    refine(qNa 4 (d.n.toNat % 10000) (by omega) (by omega)).eq rfl ?_
    exact qAF _ rfl rfl (by rw [qCj,if_neg h1,if_neg h2,if_pos h3])
   ·have h3:¬ k=3:=h3
    have e:qCj d k=qEO d.letters:=by rw [qCj,if_neg h1,if_neg h2,if_neg h3]
    rw [e]
    refine⟨Nat,fun x=>[(2, .ptr 0 0 0),(5,vS (qEO (d.letters.take x))),(6, .p (i64 x))],fun _=>⟨1,[(0,⟨117,false, .bx (d.cells.map .p)⟩)]⟩,fun x=>x≤9∧x≤d.letters.length,fun x=>9 - x,?_,?_⟩
    ·exact⟨0,⟨by omega,by omega⟩,qAC [] [] [] rfl (sk) (sk) rfl⟩
    ·rintro x ⟨g1,g2⟩
     refine And.intro (fun h4=>?_) (fun h4=>?_)
     ·have h4:(x:Int)<((d.letters.map u8).length:Nat):=h4
      rw [List.length_map] at h4
      have hx:x<d.letters.length:=by omega
      refine And.intro (fun h5=>?_) (fun h5=>?_)
      ·have h5:(x:Int)<9:=h5
       refine⟨_,⟨by omega,u8 d.letters[x],by show(d.letters.map u8)[x]?=_;rw [List.getElem?_map,List.getElem?_eq_getElem hx];rfl,rfl⟩,?_⟩
       have hb:=d.letters[x].toNat_lt
       have hs:qEO (d.letters.take (x+1))=qEO (d.letters.take x)++[abcL.getD (d.letters[x].toNat % 8) 0]:=by
        rw [qEO,qEO,List.take_take,List.take_take,Nat.min_eq_right (by omega),Nat.min_eq_right (by omega),List.take_add_one (l:=d.letters),List.getElem?_eq_getElem hx,List.map_append]
        rfl
       have hl:(qEO (d.letters.take x)).length≤10:=by simp [qEO];omega
       generalize d.letters[x]=b at hb hs ⊢
       refine⟨(b.toNat:Int),w6z,?_⟩
       refine⟨by decide,?_⟩
       refine⟨((b.toNat % 8:Nat):Int)+1,?_,?_⟩
       ·show _=IntKind.i64.wrap (((b.toNat % 8:Nat):Int)+1)
        exact w6z
       refine⟨by show(0:Int)≤(b.toNat % 8:Nat)∧((b.toNat % 8:Nat):Int)≤((b.toNat % 8:Nat):Int)+1∧((b.toNat % 8:Nat):Int)+1≤8;omega,?_⟩
       refine⟨by show(qEO (d.letters.take x)).length+((abcL.drop (b.toNat % 8)).take (b.toNat % 8+1 - b.toNat % 8)).length≤_;rw [qTE _ (by omega)];simp;omega,?_⟩
       refine⟨(x:Int)+1,w6z,x+1,⟨by omega,by omega⟩,qAC [] [] [] rfl ⟨⟨rfl,rfl⟩,?_,rfl,trivial⟩ (sk) rfl,?_⟩
       ·show PV.str (qEO (d.letters.take (x+1)))=.str (qEO (d.letters.take x)++(abcL.drop (b.toNat % 8)).take (b.toNat % 8+1 - b.toNat % 8))
        rw [hs,qTE _ (by omega)]
       ·show 9 - (x+1)<9 - x
        omega
      ·have h5:¬ (x:Int)<9:=h5
       have:x=9:=by omega
       subst this
       refine qAF _ rfl rfl ?_
       show PEnd.ret [.str (qEO (d.letters.take 9))]=_
       rw [qEO,qEO,List.take_take,Nat.min_self]
     ·have h4:¬ (x:Int)<((d.letters.map u8).length:Nat):=h4
      rw [List.length_map] at h4
      refine qAF _ rfl rfl ?_
      show PEnd.ret [.str (qEO (d.letters.take x))]=_
      rw [List.take_of_length_le (by omega)]
theorem qMV (d:Dr) (k:Int):(qCj d k).length≤10:=by
 have hg:∀ (L:List (List UInt8)) (n:Nat),(∀ s∈L,s.length≤10)→(L.getD n []).length≤10:=by
  intro L n h
  rw [List.getD_eq_getElem?_getD]
  cases e:L[n]? with
  | none=>simp
  | some s=>exact h s (List.mem_of_getElem? e)
 unfold qCj
 split
 ·exact hg _ _ (by decide)
 ·split
  ·exact hg _ _ (by decide)
  ·split
   ·have:=qHu 5 (d.n.toNat % 10000);omega
   ·simp [qEO];omega
def qC9 (d:Dr):Nat:=1+d.kind.toNat % 4
def qUt (d:Dr):Prop:=0<d.down.toNat % 3∧d.down.toNat<100
instance (d:Dr):Decidable (qUt d):=inferInstanceAs (Decidable (_∧_))
def qKU (d:Dr) (l:Nat):Nat:=if qUt d then l+d.down.toNat % 3 else l
def qTB (d:Dr) (c:Nat):Nat:=(if qUt d then 1 else c)+d.over.toNat % 4
def qEm (d:Dr) (l c:Nat):Wd:=⟨qC9 d,qCj d (qC9 d),qKU d l,qTB d c⟩
def qDW:Nat→Nat→List Dr→List Wd
 | _,_,[]=>[]
 | l,c,d::r=>qEm d l c::qDW (qKU d l) (qTB d c+(qCj d (qC9 d)).length+1) r
theorem qLz {l:List Dr} {k:Nat} (h:k<l.length):(l.map Dr.cells)[k]?=some l[k].cells:=by
 rw [List.getElem?_map,List.getElem?_eq_getElem h];rfl
structure WS where
 k:Nat
 a:Nat
 b:Nat
 out:List Wd
theorem qOm (l:List Dr):Pure cx 19 [.lsts 6 (l.map Dr.cells)] (·=.ret [.lsts 4 ((qDW 1 1 (l.take 200)).map Wd.cells)]):=by
 refine qAB Tryz.func19 rfl rfl rfl ?_
 refine⟨WS,fun x=>[(0, .p (.lsts 6 (l.map Dr.cells))),(3, .sl 0 4 0 x.out.length),(4, .p (i64 x.a)),(5, .p (i64 x.b)),(6, .p (i64 x.k))],fun x=>⟨1,[(0,⟨72,false, .pus (x.out.map Wd.cells)⟩)]⟩,
  fun x=>x.k≤200∧x.k≤l.length∧x.a≤1+2 * x.k∧x.b≤1+20 * x.k∧x.out.length=x.k∧qDW 1 1 (l.take 200)=x.out++qDW x.a x.b ((l.take 200).drop x.k),fun x=>200 - x.k,?_,?_⟩
 ·exact⟨⟨0,1,1,[]⟩,⟨by simp,by simp,by simp,by simp,by simp,by simp⟩,qAC [] [] [(0,4)] rfl (sk) (sk) rfl⟩
 ·rintro⟨k,a,b,out⟩ ⟨g1,g2,g3,g4,g5,g6⟩
  simp only [] at g1 g2 g3 g4 g5 g6
  have fin:(l.take 200).length≤k→PEnd.ret [.lsts 4 (out.map Wd.cells)]=.ret [.lsts 4 ((qDW 1 1 (l.take 200)).map Wd.cells)]:=by
   intro h
   rw [g6,List.drop_eq_nil_of_le h,qDW,List.append_nil]
  have res:Y.Res (Y.marks [(0,(⟨72,false, .pus (out.map Wd.cells)⟩:AObj))] [0]) 5 (.sl 0 4 0 out.length) (.lsts 4 (out.map Wd.cells)):=⟨_,rfl,by simp,qAD (by simp)⟩
  refine And.intro (fun h1=>?_) (fun h1=>?_)
  ·have h1:(k:Int)<((l.map Dr.cells).length:Nat):=h1
   rw [List.length_map] at h1
   have hk:k<l.length:=by omega
   refine And.intro (fun h2=>?_) (fun h2=>?_)
   ·have h2:(k:Int)<200:=h2
    have hkt:k<(l.take 200).length:=by rw [List.length_take];omega
    rw [qKj hkt,qDW] at g6
    obtain⟨d,hd⟩:∃ d,l[k]=d:=⟨_,rfl⟩
    rw [List.getElem_take,hd] at g6
    have b1:=d.kind.toNat_lt
    have b2:=d.down.toNat_lt
    have b3:=d.over.toNat_lt
    have b4:=qMV d (qC9 d)
    refine⟨_,⟨by omega,d.cells,by show(l.map Dr.cells)[k]?=_;rw [qLz hk,hd],rfl⟩,?_⟩
    refine⟨by decide,?_⟩
    refine⟨((d.kind.toNat % 4:Nat):Int),by show _=IntKind.i64.wrap ((d.kind.toNat % 4:Nat):Int);exact w6z,?_⟩
    refine⟨1+((d.kind.toNat % 4:Nat):Int),w6z,?_⟩
    refine VDraw.seq rfl ?_
    refine⟨_,⟨by omega,d.cells,by show(l.map Dr.cells)[k]?=_;rw [qLz hk,hd],rfl⟩,?_⟩
    have hkd:1+((d.kind.toNat % 4:Nat):Int)=((qC9 d:Nat):Int):=by rw [qC9];omega
    have hT:Pure cx 52 [.agg d.cells,i64 (1+((d.kind.toNat % 4:Nat):Int))] (·=.ret [.str (qCj d (qC9 d))]):=by rw [hkd];exact qVA d (qC9 d)
    refine hT.eq rfl ?_
    refine⟨_,⟨by omega,d.cells,by show(l.map Dr.cells)[k]?=_;rw [qLz hk,hd],rfl⟩,?_⟩
    refine⟨by decide,?_⟩
    refine⟨((d.down.toNat % 3:Nat):Int),by show _=IntKind.i64.wrap ((d.down.toNat % 3:Nat):Int);exact w6z,?_⟩
    refine And.intro (fun h3=>?_) (fun h3=>?_)
    ·have h3:(0:Int)<((d.down.toNat % 3:Nat):Int):=h3
     refine⟨_,⟨by omega,d.cells,by show(l.map Dr.cells)[k]?=_;rw [qLz hk,hd],rfl⟩,?_⟩
     refine And.intro (fun h4=>?_) (fun h4=>?_)
     ·have h4:(d.down.toNat:Int)<100:=h4
      have hn:qUt d:=⟨by omega,by omega⟩
      have hL:qKU d a=a+d.down.toNat % 3:=if_pos hn
      have hC:qTB d b=1+d.over.toNat % 4:=congrArg (·+_) (if_pos hn)
      refine⟨(a:Int)+((d.down.toNat % 3:Nat):Int),w6z,?_⟩
      refine⟨_,⟨by omega,d.cells,by show(l.map Dr.cells)[k]?=_;rw [qLz hk,hd],rfl⟩,?_⟩
      refine⟨by decide,?_⟩
      refine⟨((d.over.toNat % 4:Nat):Int),by show _=IntKind.i64.wrap ((d.over.toNat % 4:Nat):Int);exact w6z,?_⟩
      refine⟨((1:Int):Int)+((d.over.toNat % 4:Nat):Int),w6z,?_⟩
      refine⟨((1:Int):Int)+((d.over.toNat % 4:Nat):Int)+((qCj d (qC9 d)).length:Nat),w6z,?_⟩
      refine⟨((1:Int):Int)+((d.over.toNat % 4:Nat):Int)+((qCj d (qC9 d)).length:Nat)+1,w6z,?_⟩
      have ew:(qEm d a b).cells=[i64 (1+((d.kind.toNat % 4:Nat):Int)), .str (qCj d (qC9 d)),i64 ((a:Int)+((d.down.toNat % 3:Nat):Int)),i64 (((1:Int):Int)+((d.over.toNat % 4:Nat):Int))]:=by
       rw [Wd.cells,qEm,hL,hC,hkd]
       simp
      refine⟨by show 0+1≤1;omega,[(qEm d a b).cells],by rw [ew];rfl,?_⟩
      refine⟨by show 0+out.length≤(out.map Wd.cells).length;simp,out.map Wd.cells,qAD (by simp),?_⟩
      refine⟨by show(out.length+1) * 40≤140737488355328;omega,(out++[qEm d a b]).map Wd.cells,by simp,?_⟩
      refine⟨(k:Int)+1,w6z,⟨k+1,qKU d a,qTB d b+(qCj d (qC9 d)).length+1,out++[qEm d a b]⟩,⟨by simp only [];omega,by simp only [];omega,by simp only [];omega,by simp only [];omega,by simp only [List.length_append,List.length_cons,List.length_nil];omega,by simp only [];rw [g6,List.append_assoc];rfl⟩,qAC [] [(0,3)] [] rfl ⟨rfl,?_,?_,?_,rfl,trivial⟩ (sk) rfl,by simp only [];omega⟩
      ·exact congrArg (fun n=>AV.sl _ 4 0 n) (by simp)
      ·exact congrArg (fun z=>i64 z) (by rw [hL] <;> simp)
      ·exact congrArg (fun z=>i64 z) (by rw [hC] <;> simp)
     ·have h4:¬ (d.down.toNat:Int)<100:=h4
      have hn:¬ qUt d:=fun h=>by have:=h.2;omega
      have hL:qKU d a=a:=if_neg hn
      have hC:qTB d b=b+d.over.toNat % 4:=congrArg (·+_) (if_neg hn)
      refine⟨_,⟨by omega,d.cells,by show(l.map Dr.cells)[k]?=_;rw [qLz hk,hd],rfl⟩,?_⟩
      refine⟨by decide,?_⟩
      refine⟨((d.over.toNat % 4:Nat):Int),by show _=IntKind.i64.wrap ((d.over.toNat % 4:Nat):Int);exact w6z,?_⟩
      refine⟨((b:Int):Int)+((d.over.toNat % 4:Nat):Int),w6z,?_⟩
      refine⟨((b:Int):Int)+((d.over.toNat % 4:Nat):Int)+((qCj d (qC9 d)).length:Nat),w6z,?_⟩
      refine⟨((b:Int):Int)+((d.over.toNat % 4:Nat):Int)+((qCj d (qC9 d)).length:Nat)+1,w6z,?_⟩
      have ew:(qEm d a b).cells=[i64 (1+((d.kind.toNat % 4:Nat):Int)), .str (qCj d (qC9 d)),i64 (a:Int),i64 (((b:Int):Int)+((d.over.toNat % 4:Nat):Int))]:=by
       rw [Wd.cells,qEm,hL,hC,hkd]
       simp
      refine⟨by show 0+1≤1;omega,[(qEm d a b).cells],by rw [ew];rfl,?_⟩
      refine⟨by show 0+out.length≤(out.map Wd.cells).length;simp,out.map Wd.cells,qAD (by simp),?_⟩
      refine⟨by show(out.length+1) * 40≤140737488355328;omega,(out++[qEm d a b]).map Wd.cells,by simp,?_⟩
      refine⟨(k:Int)+1,w6z,⟨k+1,qKU d a,qTB d b+(qCj d (qC9 d)).length+1,out++[qEm d a b]⟩,⟨by simp only [];omega,by simp only [];omega,by simp only [];omega,by simp only [];omega,by simp only [List.length_append,List.length_cons,List.length_nil];omega,by simp only [];rw [g6,List.append_assoc];rfl⟩,qAC [] [(0,3)] [] rfl ⟨rfl,?_,?_,?_,rfl,trivial⟩ (sk) rfl,by simp only [];omega⟩
      ·exact congrArg (fun n=>AV.sl _ 4 0 n) (by simp)
      ·exact congrArg (fun z=>i64 z) (by rw [hL] <;> simp)
      ·exact congrArg (fun z=>i64 z) (by rw [hC] <;> simp)
    ·have h3:¬ (0:Int)<((d.down.toNat % 3:Nat):Int):=h3
     have hn:¬ qUt d:=fun h=>by have:=h.1;omega
     have hL:qKU d a=a:=if_neg hn
     have hC:qTB d b=b+d.over.toNat % 4:=congrArg (·+_) (if_neg hn)
     refine⟨_,⟨by omega,d.cells,by show(l.map Dr.cells)[k]?=_;rw [qLz hk,hd],rfl⟩,?_⟩
     refine⟨by decide,?_⟩
     refine⟨((d.over.toNat % 4:Nat):Int),by show _=IntKind.i64.wrap ((d.over.toNat % 4:Nat):Int);exact w6z,?_⟩
     refine⟨((b:Int):Int)+((d.over.toNat % 4:Nat):Int),w6z,?_⟩
     refine⟨((b:Int):Int)+((d.over.toNat % 4:Nat):Int)+((qCj d (qC9 d)).length:Nat),w6z,?_⟩
     refine⟨((b:Int):Int)+((d.over.toNat % 4:Nat):Int)+((qCj d (qC9 d)).length:Nat)+1,w6z,?_⟩
     have ew:(qEm d a b).cells=[i64 (1+((d.kind.toNat % 4:Nat):Int)), .str (qCj d (qC9 d)),i64 (a:Int),i64 (((b:Int):Int)+((d.over.toNat % 4:Nat):Int))]:=by
      rw [Wd.cells,qEm,hL,hC,hkd]
      simp
     refine⟨by show 0+1≤1;omega,[(qEm d a b).cells],by rw [ew];rfl,?_⟩
     refine⟨by show 0+out.length≤(out.map Wd.cells).length;simp,out.map Wd.cells,qAD (by simp),?_⟩
     refine⟨by show(out.length+1) * 40≤140737488355328;omega,(out++[qEm d a b]).map Wd.cells,by simp,?_⟩
     refine⟨(k:Int)+1,w6z,⟨k+1,qKU d a,qTB d b+(qCj d (qC9 d)).length+1,out++[qEm d a b]⟩,⟨by simp only [];omega,by simp only [];omega,by simp only [];omega,by simp only [];omega,by simp only [List.length_append,List.length_cons,List.length_nil];omega,by simp only [];rw [g6,List.append_assoc];rfl⟩,qAC [] [(0,3)] [] rfl ⟨rfl,?_,?_,?_,rfl,trivial⟩ (sk) rfl,by simp only [];omega⟩
     ·exact congrArg (fun n=>AV.sl _ 4 0 n) (by simp)
     ·exact congrArg (fun z=>i64 z) (by rw [hL] <;> simp)
     ·exact congrArg (fun z=>i64 z) (by rw [hC] <;> simp)
   ·have h2:¬ (k:Int)<200:=h2
    exact qAF _ rfl res (fin (by rw [List.length_take];omega))
  ·have h1:¬ (k:Int)<((l.map Dr.cells).length:Nat):=h1
   rw [List.length_map] at h1
   exact qAF _ rfl res (fin (by rw [List.length_take];omega))
def qXh (c:UInt8):Prop:=c.toNat=32∨c.toNat=10
def qWd (r:List UInt8):Bool:=match r with
 | []=>true
 | c::_=>!(decide (c.toNat=32) || decide (c.toNat=10)) && !List.isPrefixOf [45,45] r && !List.isPrefixOf [40,42] r
def qWJ (g r:List UInt8):Prop:=∀ f,(g++r).length≤f→qBM f (g++r)=.inl g.length
theorem qO7 {f:UInt8→Bool} {t:List UInt8}:qAN f t=t.length ↔ ∀ c∈t,f c=true:=by
 induction t with
 | nil=>simp [qAN]
 | cons c t ih=>
  have hl:=qDD f t
  simp only [qAN,List.length_cons]
  by_cases h:f c=true
  ·rw [if_pos h]
   constructor
   ·intro e x hx
    rcases List.mem_cons.1 hx with rfl | hx
    ·exact h
    ·exact ih.1 (by omega) x hx
   ·intro e;rw [ih.2 fun x hx=>e x (by simp [hx])]
  ·rw [if_neg h]
   constructor
   ·intro e;omega
   ·intro e;exact absurd (e c (by simp)) h
def qVp (c:UInt8):Prop:=qXh c∨c.toNat=40
inductive Fol:List UInt8→List UInt8→Prop
 | nil (a:List UInt8):Fol a []
 | bl (a:List UInt8) (c:UInt8) (b:List UInt8) (h:qVp c):Fol a (c::b)
 | same (c:UInt8) (a b:List UInt8):Fol (c::a) (c::b)
inductive Lay:Nat × Nat→List UInt8→List Wd→List UInt8→Prop
 | nil (p:Nat × Nat) (suf:List UInt8):Lay p [] [] suf
 | cons {p:Nat × Nat} {g T:List UInt8} {w:Wd} {ws:List Wd} {suf:List UInt8} {l c:Nat} (hsk:qWJ g (w.text++(T++suf))) (h1:qBV (w.text++(T++suf))=(w.kind,w.text)) (hr:qAz w.kind w.text=true)
   (hp:qQ5 p g=(l,c)) (hl:w.line=l) (hc:w.col=c) (h:Lay (l,c+w.text.length) T ws suf):Lay p (g++(w.text++T)) (w::ws) suf
theorem Lay.len {p:Nat × Nat} {T:List UInt8} {ws:List Wd} {suf:List UInt8} (h:Lay p T ws suf):ws.length≤T.length:=by
 induction h with
 | nil=>simp
 | cons hsk h1 hr hp hl hc h ih=>
  have:=qHM hr
  simp only [List.length_cons,List.length_append]
  omega
abbrev qBT:=List (List UInt8)
def qAZ (n:Int):List UInt8:=digN 4 n.toNat
def qGM (n:Int):qBT:=if n<0 then [qAs,qAZ (-n)] else [qAZ n]
def qEn (r:Rf):qBT:=if r.mode=3 then [tLB,qGz,tRB] else if r.mode=2 then [tLB,qAZ r.n,tRB] else if r.mode=1 then(if 0<r.n then [tLB,r.plate,qEA,qAZ r.n,tRB] else [tLB,r.plate,tRB]) else []
def qBW (r:Rf):qBT:=r.name::qEn r
def qEv {α:Type} (f:α→qBT):List α→qBT
 | []=>[]
 | a::r=>f a++r.flatMap fun b=>qAt::f b
def qGD (k:Int):List UInt8:=if k=1 then tEq else if k=2 then tNe else if k=3 then tLt else tLe
def lvl (op:Int):Nat:=if op=9 then 1 else if op=8 then 2 else if op=7 then 3 else 4
def inT (k:Nat) (p:Int × qBT):qBT:=if lvl p.1<k then tLP::(p.2++[tRP]) else p.2
def qCC (op n rel val:Int) (r:Rf) (st:List Int):qBT:=
 if op=6 then [qBt,tLP]++(qBW r++[tEq,qAZ val,tRP,qGD rel,qAZ n])
 else if op=5 then qBW r++([tIn,tLC]++(qEv (fun n=>[qAZ n]) st++[tRC]))
 else qBW r++[qGD op,qAZ n]
def qT5 (op n rel val:Int) (r:Rf) (st:List Int) (ps:List (Int × qBT)):qBT:=
 if op=9 then inT 1 (ps.getD 0 (0,[]))++tOr::inT 2 (ps.getD 1 (0,[]))
 else if op=8 then inT 2 (ps.getD 0 (0,[]))++qDY::inT 3 (ps.getD 1 (0,[]))
 else if op=7 then qGq::inT 3 (ps.getD 0 (0,[]))
 else qCC op n rel val r st
def Cd.op:Cd→Int
 | .mk op _ _ _ _ _ _=>op
mutual
def qAj:Cd→qBT
 | .mk op n rel val r st ar=>qT5 op n rel val r st (qEz ar)
def qEz:List Cd→List (Int × qBT)
 | []=>[]
 | c::r=>(c.op,qAj c)::qEz r
end
def qAV (k:Nat) (c:Cd):qBT:=inT k (c.op,qAj c)
def qB5 (l:List Int):qBT:=l.flatMap qGM
def qBb:List Cs→qBT
 | []=>[]
 | [c]=>qCI::qAo::qB5 c.nums
 | c::d::r=>qAj c.cond++(qAo::(qB5 c.nums++(qAX::qBb (d::r))))
def qA4 (l:List Cs):qBT:=tLC::(qBb l++[tRC])
def qAd (key:List UInt8) (l:List Rf):qBT:=if l=[] then [] else key::qEv qBW l
def qLp (d:De):qBT:=
 if d.kind=1 then [qCL,qAZ d.n] else if d.kind=2 then [qCK,d.name,tEq,qAZ d.n]
 else if d.kind=3 then [qAk,d.name]++((if d.plate=[] then [] else [tLB,d.plate,tRB])++([qAo,qAZ d.n]++(qAd qAg d.refs++(tEq::qA4 d.cases))))
 else if d.kind=4 then [qBK,d.name,qAo,qAZ d.n]++qAd qBn d.refs
 else if d.kind=5 then qBo::(qAd qAg d.refs++(tEq::qA4 d.cases)) else []
def declT (d:De):qBT:=qLp d++[qAX]
def spW:Bool→qBT→List UInt8
 | _,[]=>[]
 | b,w::r=>(if b then [32] else [])++(w++spW true r)
theorem qLD:∀ (b:Bool) (x y:qBT),spW b (x++y)=spW b x++spW (b || decide (x ≠ [])) y
 | b,[],y=>by simp [spW]
 | b,w::r,y=>by
  show(if b then [32] else [])++(w++spW true (r++y))=((if b then [32] else [])++(w++spW true r))++_
  rw [qLD true r y]
  simp [List.append_assoc]
theorem qDQ (x y:qBT):spW true (x++y)=spW true x++spW true y:=by rw [qLD];simp
theorem qO8 {x y:qBT} (h:x ≠ []):spW false (x++y)=spW false x++spW true y:=by rw [qLD,decide_eq_true h];simp
theorem qGc:∀ {x:qBT},x ≠ []→spW true x=32::spW false x
 | [],h=>absurd rfl h
 | _::_,_=>rfl
def qGu (d:De):List UInt8:=spW false (declT d)++[10]
def qCA (ds:List De):List UInt8:=ds.flatMap qGu
def qJ2 (ds:List De):Nat:=(ds.map fun d=>(declT d).length).sum
def txtV (ds:List De):List PV:=if qBg ds=true then(if (qCA ds).length≤8000∧qJ2 ds≤1500 then [.str (qCA ds),i64 0] else [.str [],i64 3]) else [.str [],i64 380]
end Go.Proofs.YtohfoaplnjcihaaGreatDoor
namespace Go.Proofs.YtohfoaplnjcihaaGreatDoor.Y
open Go
section
variable {C:Cx}
theorem qKb {f : FuncId} {fn : Func} {c : Code} {args : List AV} {u : Md} {H : Hp} {Q : AE → Md → Hp → Prop} (hf : C.P.funcs[f]? = some fn) (hname : (fn.name == "runtime.NumGoroutine") = false) (hb : fn.body = some c)
  (hN:(Nat.ble args.length fn.ntmps && qOU u)=true)
  (hv:vc C none H.next fn.ntmps c (sets (fun _=>und) (qNh 0 args)) [] H (qUk C fn.results.toList H.next u Q)):HoldsD C f args u H Q:=by
 intro Γ w args' m hR hA hM
 simp only [Bool.and_eq_true] at hN
 obtain⟨n1,hdata⟩:=hN
 refine⟨qEG hf hname hb _ _,trivial,fun c₀ cs hu _=>?_⟩
 let b:Frame:={ (default:Frame) with fn:=f,kind:=.deferred,roundOf:=none }
 have hbf:(C.P.funcs[b.fn]?).isSome=true:=by show(C.P.funcs[f]?).isSome=true;rw [hf];rfl
 have henter:Frame.enter C.P f ⟨args'⟩ .deferred=b.atR { tmps:=(⟨args'⟩:Array Value)++Array.replicate (fn.ntmps - args'.length) undef,defers:=[] } [.code c]:=by
  simp [Frame.enter,Frame.atR,hf,hb,b]
 have hc:({ c₀ with mode:=m }:Frame)=c₀:=by subst hu;rfl
 have hS:=qJk (n:=fn.ntmps) hA (Nat.le_of_ble_eq_true n1)
 obtain⟨e2,a2,w2,⟨e,σ2,ds2,H2,Γ2,hQ2,hX2,hS2,hL2⟩,harr2⟩:=qB7 (rn:=none) (n0:=H.next) hbf c _ [] H _ Γ _ w (Nat.le_refl _) rfl hR hS hv [] (c₀::cs)
 have hle:=hL2.le hR
 have hmr2:=qRH hle hM
 unfold qUk at hQ2
 split at hQ2 <;> try exact hQ2.elim
 have hdf:=hS2.df
 simp only [DRL] at hdf
 rw [← henter] at harr2
 have ret:∀ (fr:Frame),fr={ b.atR a2 [] with mode:=.returning }∨(∃ todo,fr={ b.atR a2 todo with mode:=.returning })→qRK C σ2 H2 fn.results.toList (fun vs=>qTJ H.next (fun e H'=>Q e u H') (.returned (qSX vs)) H2) →
   StepsIn (Machine.fenced C.P (Fz none)) C.P (lone (Frame.enter C.P f ⟨args'⟩ .deferred) (c₀::cs) w) (lone fr (c₀::cs) w2) →
   ∃ e u' w' fr,qST C Γ H w Q e u' w'∧ComesIn (Machine.fenced C.P (Fz none)) C.P (lone (Frame.enter C.P f ⟨args'⟩ .deferred) (c₀::cs) w) (lone fr ({ c₀ with mode:=u' }::cs) w') e∧fr.kind=.deferred∧fr.fn=f∧fr.going C.P w' e:=by
  intro fr hfr hr hs
  obtain⟨vs,vs',k1,k2,k3⟩:=qDa hL2.1 hS2 hr
  refine⟨.returned (tup vs'),m,w2,fr,qHB hdata k1 ⟨_,rfl,qQ6 k2⟩ hmr2 hL2,by rw [hc];exact hs,?_,?_,?_⟩
  ·rcases hfr with rfl | ⟨todo,rfl⟩ <;> rfl
  ·rcases hfr with rfl | ⟨todo,rfl⟩ <;> rfl
  ·rcases hfr with rfl | ⟨todo,rfl⟩ <;> exact⟨rfl,hdf,fn,hf,qE3 k3⟩
 cases e with
 | normal=>
  simp only [XR] at hX2;subst hX2
  exact ret _ (.inl rfl) hQ2 (StepsIn.trans harr2 (.one (qAU _) (stepR_end rfl)))
 | ret=>
  simp only [XR] at hX2;subst hX2
  obtain⟨todo,hs⟩:=harr2.1 rfl
  exact ret _ (.inr ⟨todo,rfl⟩) hQ2 hs
 | panic ch=>
  simp only [XR] at hX2
  obtain⟨ch',rfl,hp⟩:=hX2
  obtain⟨todo,hs⟩:=harr2
  exact⟨.panicked ch',m,w2,_,qHB hdata hQ2 ⟨ch',rfl,hp⟩ hmr2 hL2,by rw [hc];exact hs,rfl,rfl,rfl,hdf,fn,hf⟩
 | exit i=>exact hQ2.elim
 | goto i=>exact hQ2.elim
end
end Go.Proofs.YtohfoaplnjcihaaGreatDoor.Y
namespace Go.Proofs.YtohfoaplnjcihaaGreatDoor.Y
open Go
section
variable {C:Cx}
theorem HoldsD.useT {g:FuncId} {args0 args:List AV} {n0:Nat} {L0:List (Nat × AObj)} {H:Hp} {Q0:AE→Hp→Prop} {Q1:AE→Md→Hp→Prop} (h:HoldsD C g args0 .ret ⟨n0,L0⟩ fun e u H'=>u=.ret∧Q0 e H') (fs:List Nat) (ps:List (Nat × Nat))
  (hb:(qA6 H.l fs && (List.range n0).all (fun n=>Nat.blt (look ps n) H.next) && qH9 (qBc 0 ps n0 H.next) [] L0)=true)
  (hH:qRE (qBc 0 ps n0 H.next) [] (marks H.l fs) 0 L0) (hA0:qFv (qBc 0 ps n0 H.next) [] (marks H.l fs) args args0)
  (hQ1:∀ e0 H0',Q0 e0 H0'→qEx H0'.l=true∧∃ e H2,qRl (qBc 0 ps n0 H.next) e0=e∧mrg (qBc 0 ps n0 H.next) n0 L0 (H.mrk fs) H0'=H2∧Q1 e .ret H2):HoldsD C g args .ret H Q1:=by
 have hQ:∀ e0 H0',Q0 e0 H0'→qEx H0'.l=true∧(fun e H2=>Q1 e .ret H2) (qRl (qBc 0 ps n0 H.next) e0) (mrg (qBc 0 ps n0 H.next) n0 L0 (H.mrk fs) H0'):=fun e0 H0' hq=>by
  obtain⟨h1,e,H2,rfl,rfl,h2⟩:=hQ1 e0 H0' hq
  exact⟨h1,h2⟩
 obtain⟨Q,hQd⟩:∃ Q:AE→Hp→Prop,Q=fun e H2=>Q1 e .ret H2:=⟨_,rfl⟩
 rw [← hQd] at hQ
 intro Γ0 w args' m hR0 hA hM
 simp only [Bool.and_eq_true] at hb
 obtain⟨⟨b1,b2⟩,b3⟩:=hb
 obtain⟨Γ,e1,hLm⟩:=hR0.mark b1
 have hR:=hLm.1
 have hA:=qBD (hLm.le hR0) _ _ hA
 have hlt:∀ n,n<n0→qBc 0 ps n0 H.next n<H.next:=by
  intro n hn
  unfold qBc
  rw [show Nat.blt n 0=false from rfl]
  rw [show Nat.blt n n0=true by simpa using hn]
  have:=List.all_eq_true.1 b2 n (List.mem_range.2 hn)
  simpa using this
 have hge:∀ n,n0≤n→qBc 0 ps n0 H.next n=n - n0+H.next:=fun n hn=>qEa (Nat.zero_le _) hn
 have hsee:=R.see (H1:=⟨n0,L0⟩) (ρ:=qBc 0 ps n0 H.next) (ni:=[]) (n0:=0) hR hH (qCv b3) rfl (fun n h=>by omega) (Nat.zero_le _) (fun n h=>by rw [hge n h];show H.next≤_;omega)
 have hA1:=qBI hR _ _ _ hA0 hA
 have key:∀ e w',Post C (Γ.see (qBc 0 ps n0 H.next) []) ⟨n0,L0⟩ w Q0 e w'→Post C Γ (H.mrk fs) w Q e w':=by
  rintro e' w' ⟨e0,H0',Γc,h1,h2,hL⟩
  obtain⟨hnd,hq⟩:=hQ e0 H0' h1
  obtain⟨h3,h4,h5,h6⟩:=hL
  simp only at h4 h5
  let Γ':Gm:=⟨fun m=>if m<H.next then Γ.nm m else Γc.nm (m - H.next+n0),Γc.fz⟩
  have hnm:∀ n,Γ'.nm (qBc 0 ps n0 H.next n)=Γc.nm n:=by
   intro n
   by_cases hn:n<n0
   ·simp only [Γ',if_pos (hlt n hn)]
    rw [h4 n hn]
    rfl
   ·have hn':=hge n (by omega)
    simp only [Γ']
    rw [hn',if_neg (by omega)]
    congr 1
    omega
  have hle:Γ.le Γ':=by
   refine⟨fun n q hq=>?_,h6.fz⟩
   have hn:n<H.next:=by
    rcases Nat.lt_or_ge n H.next with h1 | h1
    ·exact h1
    ·rw [hR.fresh n h1] at hq;cases hq
   simp only [Γ',if_pos hn]
   exact hq
  have hOwn0:∀ k,Own (Γ.see (qBc 0 ps n0 H.next) []) ⟨n0,L0⟩ k→Own Γ (H.mrk fs) k:=fun k hk=>by
   rcases hsee.2.2.2.prov k hk with h1 | h1
   ·exact absurd (Own.blk_lt hsee.1 hk) (by omega)
   ·exact h1
  -- an owned block of the callee's is not one of the frame
  have hframe:∀ m o q,qOQ (qBc 0 ps n0 H.next) L0 m=false→qAh (H.mrk fs).l m=some o→Γ.nm m=some q→q.nl=false→q.blk<w.heap.size∧¬ Own (Γ.see (qBc 0 ps n0 H.next) []) ⟨n0,L0⟩ q.blk:=by
   intro m o q hno hm hq hnl
   obtain⟨q',e1,e2⟩:=hR.objs m o hm
   rw [hq] at e1;injection e1 with e1;subst e1
   refine⟨e2.blk_lt hnl,?_⟩
   rintro⟨n,o0,q0,k1,k2,k3,k4,k5⟩
   have hso:=qFw hH k1
   unfold qU0 at hso
   simp only [qCB] at hso
   obtain⟨oc,j1,j2,j3,j4⟩:=hso
   have hne:=qKa hno (qFi k1)
   exact hR.apart _ oc m o q0 q j1 hm hne k3 hq (by rw [j3];exact k2) k4 hnl k5
  have hwh:∀ m o,qAh (mrg (qBc 0 ps n0 H.next) n0 L0 (H.mrk fs) H0').l m=some o→(∃ n o',m=qBc 0 ps n0 H.next n∧qAh H0'.l n=some o'∧isCells o'.c=true∧o=qRj (qBc 0 ps n0 H.next) o')∨(qOQ (qBc 0 ps n0 H.next) L0 m=false∧qAh (H.mrk fs).l m=some o):=by
   intro m o hm
   rcases qFD hm with h1 | h1
   ·obtain⟨n,o',k1,k2,k3,k4⟩:=qJa h1
    exact .inl ⟨n,o',k3,qGH hnd k1,k2,k4⟩
   ·exact .inr (qKV h1)
  have hfrq:∀ m o q,qOQ (qBc 0 ps n0 H.next) L0 m=false→qAh (H.mrk fs).l m=some o→Γ'.nm m=some q→Γ.nm m=some q:=by
   intro m o q _ hm hq
   obtain⟨q',e1,_⟩:=hR.objs m o hm
   have:=hle.nm _ _ e1
   rw [hq] at this
   rw [this];exact e1
  -- a block of the callee's that the heap owns,or that is not written any more,is none of an owned object of the frame
  have hblk:∀ n o' qc m o q,qAh H0'.l n=some o'→Γc.nm n=some qc→qc.nl=false→qOQ (qBc 0 ps n0 H.next) L0 m=false→qAh (H.mrk fs).l m=some o→Γ.nm m=some q→q.nl=false→(o'.fr=false∨o.fr=false)→isCells o'.c=true→qc.blk ≠ q.blk:=by
   intro n o' qc m o q k1 k2 k3 k4 k5 k6 k7 k8 k9 e
   obtain⟨l1,l2⟩:=hframe m o q k4 k5 k6 k7
   cases hfr:o'.fr with
   | false=>
    rcases h6.prov qc.blk ⟨n,o',qc,k1,hfr,k2,k3,rfl⟩ with c1 | c1
    ·omega
    ·exact l2 (e ▸ c1)
   | true=>
    have hof:o.fr=false:=by
     rcases k8 with k8 | k8
     ·rw [hfr] at k8;cases k8
     ·exact k8
    obtain⟨qx,x1,x2⟩:=h3.objs n o' k1
    rw [k2] at x1;injection x1 with x1;subst x1
    rcases (qAO k9).1 x2 with ⟨y,_⟩ | ⟨_,us,rr,z,g1,g2,g3,g3',g4,g5,g6,g7,g8⟩
    ·rw [k3] at y;cases y
    ·rcases h6.fzprov _ _ (g8 hfr) with c1 | c1 | c1
     ·have c1':Γ.fz qc.blk=some _:=c1
      rw [e,hR.own m o q k5 hof k6 k7] at c1'
      cases c1'
     ·omega
     ·exact l2 (e ▸ c1)
  refine⟨_,_,Γ',hq,qTK hnm rfl h2,⟨h3.glob,fun n hn=>?_,h3.fzok,fun m o hm=>?_,fun m o q hm hf hq1 hnl=>?_,fun m o m' o' q q' hm hm' hne hq1 hq2 hf hnl hnl'=>?_⟩,fun m hm=>by have hm:m<H.next:=hm;simp only [Γ',if_pos hm],by show H.next≤H.next+_;omega,⟨h6.os,h6.tape,h6.output,h6.size,fun k hk hno=>h6.kept k hk (fun e=>hno (hOwn0 k e)),fun k hk=>?_,h6.fz,fun k a hk=>?_⟩⟩
  ·have hn:H.next+(H0'.next - n0)≤n:=hn
   simp only [Γ',if_neg (show ¬ n<H.next by omega)]
   exact h3.fresh _ (by omega)
  ·rcases hwh m o hm with ⟨n,o',rfl,k2,k3,rfl⟩ | ⟨k1,k2⟩
   ·obtain⟨q,x1,x2⟩:=h3.objs n o' k2
    exact⟨q,by rw [hnm];exact x1,qIO hnm rfl k3 x2⟩
   ·obtain⟨q,x1,x2⟩:=hR.objs m o k2
    refine⟨q,hle.nm _ _ x1,x2.ext hle fun hnl=>?_⟩
    obtain⟨l1,l2⟩:=hframe m o q k1 k2 x1 hnl
    exact h6.kept _ l1 l2
  ·rcases hwh m o hm with ⟨n,o',rfl,k2,k3,rfl⟩ | ⟨k1,k2⟩
   ·rw [hnm] at hq1
    exact h3.own n o' q k2 hf hq1 hnl
   ·have hq2:=hfrq m o q k1 k2 hq1
    have h0:=hR.own m o q k2 hf hq2 hnl
    obtain⟨l1,l2⟩:=hframe m o q k1 k2 hq2 hnl
    cases hx:Γc.fz q.blk with
    | none=>rfl
    | some a=>
     rcases h6.fzprov _ _ hx with c1 | c1 | c1
     ·have c1':Γ.fz q.blk=some _:=c1
      rw [h0] at c1';cases c1'
     ·omega
     ·exact(l2 c1).elim
  ·rcases hwh m o hm with ⟨n,o1,rfl,k2,k3,rfl⟩ | ⟨k1,k2⟩
   ·rw [hnm] at hq1
    rcases hwh m' o' hm' with ⟨n',o2,rfl,j2,j3,rfl⟩ | ⟨j1,j2⟩
    ·rw [hnm] at hq2
     exact h3.apart n o1 n' o2 q q' k2 j2 (fun e=>hne (by rw [e])) hq1 hq2 hf hnl hnl'
    ·exact hblk n o1 q m' o' q' k2 hq1 hnl j1 j2 (hfrq _ _ _ j1 j2 hq2) hnl' (.inl hf) k3
   ·have hq1':=hfrq m o q k1 k2 hq1
    rcases hwh m' o' hm' with ⟨n',o2,rfl,j2,j3,rfl⟩ | ⟨j1,j2⟩
    ·rw [hnm] at hq2
     exact Ne.symm (hblk n' o2 q' m o q j2 hq2 hnl' k1 k2 hq1' hnl (.inr hf) j3)
    ·exact hR.apart m o m' o' q q' k2 j2 hne hq1' (hfrq _ _ _ j1 j2 hq2) hf hnl hnl'
  ·obtain⟨m,o,q,k1,k2,k3,k4,rfl⟩:=hk
   rcases hwh m o k1 with ⟨n,o1,rfl,j2,j3,rfl⟩ | ⟨j1,j2⟩
   ·rw [hnm] at k3
    rcases h6.prov q.blk ⟨n,o1,q,j2,k2,k3,k4,rfl⟩ with c1 | c1
    ·exact .inl c1
    ·exact .inr (hOwn0 _ c1)
   ·exact .inr ⟨m,o,q,j2,k2,hfrq _ _ _ j1 j2 k3,k4,rfl⟩
  ·rcases h6.fzprov k a hk with c1 | c1 | c1
   ·exact .inl c1
   ·exact .inr (.inl c1)
   ·exact .inr (.inr (hOwn0 _ c1))
 have fin:∀ e w',Post C (Γ.see (qBc 0 ps n0 H.next) []) ⟨n0,L0⟩ w Q0 e w'→Post C Γ0 H w Q e w':=by
  intro e w' hP
  obtain⟨e0,H',Γ',k1,k2,k3⟩:=key e w' hP
  exact⟨e0,H',Γ',k1,k2,hLm.trans (k3.mono hLm.2.2.1)⟩
 have hM:m=.returning:=hM
 subst hM
 obtain⟨h1,h2⟩:=h _ w args' .returning hsee.1 hA1 rfl
 refine⟨h1,h2.mono fun e' m' w' hP=>?_⟩
 obtain⟨e0,u,H',Γ',⟨rfl,k1⟩,k2,k3,k4⟩:=hP
 have k3:m'=.returning:=k3
 subst k3
 obtain⟨e1,H1,Γ1,j1,j2,j3⟩:=fin e' w' ⟨e0,H',Γ',k1,k2,k4⟩
 rw [hQd] at j1
 exact⟨e1, .ret,H1,Γ1,j1,j2,rfl,j3⟩
end
end Go.Proofs.YtohfoaplnjcihaaGreatDoor.Y
namespace Go.Proofs.YtohfoaplnjcihaaGreatDoor
open Go Y
set_option maxRecDepth 100000
set_option maxHeartbeats 4000000
abbrev TWr:TypeId:=108
structure Wst where
 s:List UInt8
 n:Nat
 b:Bool
def Wst.sz (st:Wst):Nat:=st.n+st.s.length
def qMx (st:Wst) (x:List UInt8):Wst:=⟨(st.s++(if st.b then [32] else []))++x,st.n+1,true⟩
def puts (st:Wst) (l:qBT):Wst:=l.foldl qMx st
def qS6 (st:Wst):Wst:=⟨st.s++[10],st.n,false⟩
def wt:qBT→Nat
 | []=>0
 | x::l=>x.length+2+wt l
theorem qAL:∀ a b:qBT,wt (a++b)=wt a+wt b
 | [],b=>by simp [wt]
 | x::a,b=>by rw [List.cons_append,wt,wt,qAL a b];omega
theorem qTm (st:Wst) (x:List UInt8):(qMx st x).sz≤st.sz+(x.length+2):=by
 have h3:(if st.b=true then [32] else []:List UInt8).length≤1:=by cases st.b <;> simp
 show st.n+1+((st.s++(if st.b then [32] else []))++x).length≤st.n+st.s.length+_
 rw [List.length_append,List.length_append];omega
theorem qRs (st:Wst):puts st []=st:=rfl
theorem qFc (st:Wst) (x:List UInt8) (l:qBT):puts st (x::l)=puts (qMx st x) l:=rfl
theorem qAE (st:Wst) (a b:qBT):puts st (a++b)=puts (puts st a) b:=List.foldl_append
theorem qAI:∀ (l:qBT) (st:Wst),(puts st l).sz≤st.sz+wt l
 | [],st=>Nat.le_refl _
 | x::l,st=>by
  have h1:=qAI l (qMx st x)
  have h2:=qTm st x
  rw [qFc,wt];omega
theorem qMw:∀ (l:qBT) (st:Wst),(puts st l).s=st.s++spW st.b l∧(puts st l).n=st.n+l.length∧(puts st l).b=(st.b || decide (l ≠ []))
 | [],st=>by simp [qRs,spW]
 | x::l,st=>by
  obtain⟨h1,h2,h3⟩:=qMw l (qMx st x)
  refine⟨?_,?_,?_⟩
  ·rw [qFc,h1,spW];simp [qMx]
  ·rw [qFc,h2];simp [qMx];omega
  ·rw [qFc,h3];simp [qMx]
def wOu (u:Bool) (k:Nat) (st:Wst):AObj:=⟨TWr,false, .bx [au u, .sl k 1 0 st.s.length, .p (i64 st.n), .p (.bool st.b)]⟩
abbrev wO (k:Nat) (st:Wst):AObj:=⟨TWr,false, .bx [.ptr 0 0 0, .sl k 1 0 st.s.length, .p (i64 st.n), .p (.bool st.b)]⟩
def bO (s:List UInt8):AObj:=⟨5,false, .pu (s.map ub)⟩
abbrev wH (u:Bool) (st:Wst):Hp:=⟨2,[(1,bO st.s),(0,wOu u 1 st)]⟩
abbrev wH' (st:Wst):Hp:=⟨3,[(2,bO st.s),(0,wO 2 st)]⟩
theorem qVj:liesAt cx.P cx.P.depth TWr 1 0 TB 1=true:=by kernel_rfl
theorem qV4 (cs:List AV) (lk:Nat→Option AObj) (h:lk 0=some ⟨TWr,false, .bx cs⟩):qHU cx.P 214 104 (.ptr 0 0 0) lk=.val (.ptr 0 0 0):=by
 have h1:cx.P.underlying 214=some .unsafePointer:=rfl
 have h2:cx.P.underlying 104=some (.pointer TB):=rfl
 obtain⟨z,h3⟩:∃ z,qCz cx.P TB=some (z+1):=⟨_,rfl⟩
 unfold qHU
 rw [h1,h2]
 simp only []
 rw [h,h3]
 simp [qVj]
theorem qQo (u:Bool) (v a b:AV):HoldsG cx 108 [.ptr 0 0 0] ⟨2,[(0,⟨TWr,false, .bx [au u,v,a,b]⟩)]⟩ fun e H'=>e=.returned und∧H'=⟨2,[(0,⟨TWr,false, .bx [.ptr 0 0 0,v,a,b]⟩)]⟩:=by
 refine qA3 Tryz.func108 rfl rfl rfl ?_
 cases u
 ·refine qOF ?_
  conv=>whnf
  generalize hz:pop cx.P (.convert _ _ _) _ _=z
  rw [show z=.val (.ptr 0 0 0) from hz.symm.trans (qV4 [.p .nilp,v,a,b] (qAh [(0,⟨TWr,false, .bx [.p .nilp,v,a,b]⟩)]) rfl)]
  exact⟨rfl,rfl⟩
 ·exact⟨rfl,rfl⟩
def wB (st:Wst) (x:List UInt8):Wst:=⟨st.s++x,st.n,st.b⟩
theorem qL6 (u:Bool) (st:Wst) (b:UInt8) (hx:st.sz≤100000000):HoldsG cx 73 [.ptr 0 0 0, .p (u8 b)] (wH u st) fun e H'=>e=.returned (.p .nilIface)∧H'=wH' (wB st [b]):=by
 obtain⟨s,n,g⟩:=st
 have hx:n+s.length≤100000000:=hx
 refine qAA Tryz.func73 rfl rfl rfl ?_
 refine(qQo u (.sl 1 1 0 s.length) (.p (i64 n)) (.p (.bool g))).useE [] [] rfl ?_ ?_ ?_
 ·cases u <;> (exact sk)
 ·(exact sk)
 ·refine⟨by show 0+1≤_;simp,[ub b],rfl,?_⟩
  refine⟨by show 0+s.length≤(s.map ub).length;simp,s.map ub,qSa s,by show(s.length+1) * 1≤_;omega,(s++[b]).map ub,by simp,?_⟩
  exact⟨[],[(2,3)],[], .returned (.p .nilIface),⟨3,[(2,bO (s++[b])),(0,⟨TWr,false, .bx [.ptr 0 0 0, .sl 2 1 0 (s.length+1), .p (i64 n), .p (.bool g)]⟩)]⟩,rfl,⟨_,rfl,rfl⟩,sk,rfl,by simp [wH',wB,wO]⟩
theorem qMY (u:Bool) (st:Wst) (x:List UInt8) (hx:st.sz≤100000000) (hs:x.length≤100000000):HoldsG cx 64 [.ptr 0 0 0,vS x] (wH u st) fun e H'=>e=.returned (.tup [.p (i64 x.length), .p .nilIface])∧H'=wH' (wB st x):=by
 obtain⟨s,n,g⟩:=st
 have hx:n+s.length≤100000000:=hx
 refine qAA Tryz.func64 rfl rfl rfl ?_
 refine(qQo u (.sl 1 1 0 s.length) (.p (i64 n)) (.p (.bool g))).useE [] [] rfl ?_ ?_ ?_
 ·cases u <;> (exact sk)
 ·(exact sk)
 ·refine⟨by show 0+s.length≤(s.map ub).length;simp,s.map ub,qSa s,by show(s.length+x.length) * 1≤_;omega,(s++x).map ub,by simp,?_⟩
  exact⟨[],[(2,2)],[], .returned (.tup [.p (i64 x.length), .p .nilIface]),⟨3,[(2,bO (s++x)),(0,⟨TWr,false, .bx [.ptr 0 0 0, .sl 2 1 0 (s.length+x.length), .p (i64 n), .p (.bool g)]⟩)]⟩,rfl,⟨_,rfl,_,rfl,sk⟩,sk,rfl,by simp [wH',wB,wO]⟩
def WQ (st:Wst) (e:AE) (H':Hp):Prop:=e=.returned und∧H'=wH' st
theorem qW3 (st:Wst) (hx:st.sz≤100000000):HoldsG cx 43 [.ptr 0 0 0] (wH true st) (WQ (qS6 st)):=by
 refine qAA Tryz.func43 rfl rfl rfl ?_
 refine(qL6 true st 10 hx).holds.useT [] [] rfl (sk) (sk) fun e0 H0 hq=>?_
 obtain⟨rfl,rfl⟩:=hq
 refine⟨rfl,_,⟨3,[(2,bO (st.s++[10])),(0,wO 2 (wB st [10]))]⟩,rfl,rfl,?_⟩
 exact⟨[],[],[], .returned und,wH' (qS6 st),rfl,sk,sk,rfl,rfl⟩
theorem qSe {l:qBT} {k:Nat} (h:k<l.length):(l.map PV.str)[k]?=some (.str (l.getD k [])):=by
 rw [List.getElem?_map,List.getElem?_eq_getElem h,List.getD_eq_getElem?_getD,List.getElem?_eq_getElem h];rfl
theorem qOi {l:qBT} {k:Nat} (h:k<l.length):wt (l.take k)+(l.getD k []).length+2≤wt l:=by
 have e:l=l.take k++l.getD k []::l.drop (k+1):=by
  rw [List.getD_eq_getElem?_getD,List.getElem?_eq_getElem h]
  show l=l.take k++l[k]::l.drop (k+1)
  rw [← List.drop_eq_getElem_cons h,List.take_append_drop]
 conv=>rhs;rw [e]
 rw [qAL,wt];omega
theorem qQE:∀ l:qBT,l.length≤wt l
 | []=>Nat.le_refl _
 | x::l=>by have:=qQE l;rw [wt,List.length_cons];omega
def sU (l:qBT):AObj:=⟨qXA,false, .pu (l.map PV.str)⟩
theorem qA2 (u:Bool) (st:Wst) (l:qBT) (h0:0<l.length) (hb:st.sz+wt l≤100000000):HoldsG cx 70 [.ptr 0 0 0, .sl 2 1 0 l.length] ⟨3,[(2,sU l),(1,bO st.s),(0,wOu u 1 st)]⟩ fun e H'=>e=.returned und∧H'=⟨4,[(3,bO (puts st l).s),(0,wO 3 (puts st l))]⟩:=by
 refine qAA Tryz.func70 rfl rfl rfl ?_
 refine⟨Wst × Nat × Bool,fun x=>[(0, .ptr 0 0 0),(6, .sl 2 1 0 l.length),(7, .p (i64 l.length)),(8, .p (i64 x.2.1))],fun x=>⟨4,[(2,sU l),(3,bO x.1.s),(0,wOu x.2.2 3 x.1)]⟩,fun x=>x.2.1≤l.length∧(0<x.2.1→x.2.2=true)∧x.1=puts st (l.take x.2.1),fun x=>l.length - x.2.1,?_,?_⟩
 ·exact⟨(st,0,u),⟨by simp,fun h=>absurd h (by simp),rfl⟩,qAC [] [(3,1)] [] rfl (sk) (by cases u <;> (exact sk)) rfl⟩
 rintro⟨⟨s,n,b⟩,k,u⟩ ⟨k1,k2,k3⟩
 simp only [] at k1 k2 k3
 have hsz:=qAI (l.take k) st
 rw [← k3] at hsz
 have hsz:n+s.length≤st.sz+wt (l.take k):=hsz
 by_cases hk:k<l.length
 rotate_left
 ·have hu:=k2 (by omega)
  subst hu
  have e:puts st l=⟨s,n,b⟩:=by rw [k3,qBY (by omega)]
  refine And.intro (fun h=>absurd (show(k:Int)<(l.length:Nat) from h) (by omega)) (fun _=>?_)
  rw [e]
  exact⟨[],[(3,3)],[], .returned und,⟨4,[(3,bO s),(0,wO 3 ⟨s,n,b⟩)]⟩,rfl,sk,sk,rfl,rfl⟩
 have hw:=qOi hk
 have hlw:=qQE l
 have e:puts st (l.take (k+1))=qMx ⟨s,n,b⟩ (l.getD k []):=by rw [qAW [] hk,qAE,← k3];rfl
 obtain⟨x,hx⟩:∃ x,x=l.getD k []:=⟨_,rfl⟩
 have hc:(l.map PV.str)[0+((k:Nat):Int).toNat]?=some (.str (l.getD k [])):=by rw [Int.toNat_natCast,Nat.zero_add];exact qSe hk
 rw [← hx] at e hw hc
 clear k2 k3
 cases b
 ·refine And.intro (fun _=>?_) (fun h=>absurd (show(k:Int)<(l.length:Nat) by omega) h)
  refine⟨by omega,_,⟨.str x,hc,rfl⟩,?_⟩
  refine(qMY u ⟨s,n,true⟩ x (by show n+s.length≤_;omega) (by omega)).holds.useT [] [(1,3)] rfl (by cases u <;> (exact sk)) (sk) fun e0 H0 hq=>?_
  obtain⟨rfl,rfl⟩:=hq
  refine⟨rfl,_,⟨5,[(4,bO (s++x)),(0,wO 4 (wB ⟨s,n,true⟩ x)),(2,sU l)]⟩,rfl,rfl,?_⟩
  refine⟨((n:Nat):Int)+1,w6z,?_⟩
  refine⟨((k:Nat):Int)+1,w6z,?_⟩
  exact⟨(⟨s++x,n+1,true⟩,k+1,true),⟨hk,fun _=>rfl,by rw [e];simp [qMx]⟩,qAC [] [(3,4)] [] rfl (sk) (sk) rfl,by show l.length - (k+1)<l.length - k;omega⟩
 ·refine And.intro (fun _=>?_) (fun h=>absurd (show(k:Int)<(l.length:Nat) by omega) h)
  refine⟨by omega,_,⟨.str x,hc,rfl⟩,?_⟩
  refine(qL6 u ⟨s,n,true⟩ 32 (by show n+s.length≤_;omega)).holds.useT [] [(1,3)] rfl (by cases u <;> (exact sk)) (sk) fun e0 H0 hq=>?_
  obtain⟨rfl,rfl⟩:=hq
  refine⟨rfl,_,⟨5,[(4,bO (s++[32])),(0,wO 4 (wB ⟨s,n,true⟩ [32])),(2,sU l)]⟩,rfl,rfl,?_⟩
  refine(qMY true ⟨s++[32],n,true⟩ x (by show n+(s++[32]).length≤_;simp;omega) (by omega)).holds.useT [] [(1,4)] rfl (sk) (sk) fun e0 H0 hq=>?_
  obtain⟨rfl,rfl⟩:=hq
  refine⟨rfl,_,⟨6,[(5,bO ((s++[32])++x)),(0,wO 5 (wB ⟨s++[32],n,true⟩ x)),(2,sU l)]⟩,rfl,rfl,?_⟩
  refine⟨((n:Nat):Int)+1,w6z,?_⟩
  refine⟨((k:Nat):Int)+1,w6z,?_⟩
  exact⟨(⟨(s++[32])++x,n+1,true⟩,k+1,true),⟨hk,fun _=>rfl,by rw [e];simp [qMx]⟩,qAC [] [(3,5)] [] rfl (sk) (sk) rfl,by show l.length - (k+1)<l.length - k;omega⟩
theorem qSr (u:Bool) (st:Wst) (l:qBT) (h0:0<l.length) (hb:st.sz+wt l≤100000000):HoldsD cx 70 [.ptr 0 0 0, .sl 2 1 0 l.length] .ret ⟨3,[(2,sU l),(1,bO st.s),(0,wOu u 1 st)]⟩ fun e m H'=>m=.ret∧(e=.returned und∧H'=⟨4,[(3,bO (puts st l).s),(0,wO 3 (puts st l))]⟩):=by
 refine qKb Tryz.func70 rfl rfl rfl ?_
 refine⟨Wst × Nat × Bool,fun x=>[(0, .ptr 0 0 0),(6, .sl 2 1 0 l.length),(7, .p (i64 l.length)),(8, .p (i64 x.2.1))],fun x=>⟨4,[(2,sU l),(3,bO x.1.s),(0,wOu x.2.2 3 x.1)]⟩,fun x=>x.2.1≤l.length∧(0<x.2.1→x.2.2=true)∧x.1=puts st (l.take x.2.1),fun x=>l.length - x.2.1,?_,?_⟩
 ·exact⟨(st,0,u),⟨by simp,fun h=>absurd h (by simp),rfl⟩,qAC [] [(3,1)] [] rfl (sk) (by cases u <;> (exact sk)) rfl⟩
 rintro⟨⟨s,n,b⟩,k,u⟩ ⟨k1,k2,k3⟩
 simp only [] at k1 k2 k3
 have hsz:=qAI (l.take k) st
 rw [← k3] at hsz
 have hsz:n+s.length≤st.sz+wt (l.take k):=hsz
 by_cases hk:k<l.length
 rotate_left
 ·have hu:=k2 (by omega)
  subst hu
  have e:puts st l=⟨s,n,b⟩:=by rw [k3,qBY (by omega)]
  refine And.intro (fun h=>absurd (show(k:Int)<(l.length:Nat) from h) (by omega)) (fun _=>?_)
  rw [e]
  exact⟨[],[(3,3)],[], .returned und,⟨4,[(3,bO s),(0,wO 3 ⟨s,n,b⟩)]⟩,rfl,sk,sk,rfl,rfl,rfl⟩
 have hw:=qOi hk
 have hlw:=qQE l
 have e:puts st (l.take (k+1))=qMx ⟨s,n,b⟩ (l.getD k []):=by rw [qAW [] hk,qAE,← k3];rfl
 obtain⟨x,hx⟩:∃ x,x=l.getD k []:=⟨_,rfl⟩
 have hc:(l.map PV.str)[0+((k:Nat):Int).toNat]?=some (.str (l.getD k [])):=by rw [Int.toNat_natCast,Nat.zero_add];exact qSe hk
 rw [← hx] at e hw hc
 clear k2 k3
 cases b
 ·refine And.intro (fun _=>?_) (fun h=>absurd (show(k:Int)<(l.length:Nat) by omega) h)
  refine⟨by omega,_,⟨.str x,hc,rfl⟩,?_⟩
  refine(qMY u ⟨s,n,true⟩ x (by show n+s.length≤_;omega) (by omega)).holds.useT [] [(1,3)] rfl (by cases u <;> (exact sk)) (sk) fun e0 H0 hq=>?_
  obtain⟨rfl,rfl⟩:=hq
  refine⟨rfl,_,⟨5,[(4,bO (s++x)),(0,wO 4 (wB ⟨s,n,true⟩ x)),(2,sU l)]⟩,rfl,rfl,?_⟩
  refine⟨((n:Nat):Int)+1,w6z,?_⟩
  refine⟨((k:Nat):Int)+1,w6z,?_⟩
  exact⟨(⟨s++x,n+1,true⟩,k+1,true),⟨hk,fun _=>rfl,by rw [e];simp [qMx]⟩,qAC [] [(3,4)] [] rfl (sk) (sk) rfl,by show l.length - (k+1)<l.length - k;omega⟩
 ·refine And.intro (fun _=>?_) (fun h=>absurd (show(k:Int)<(l.length:Nat) by omega) h)
  refine⟨by omega,_,⟨.str x,hc,rfl⟩,?_⟩
  refine(qL6 u ⟨s,n,true⟩ 32 (by show n+s.length≤_;omega)).holds.useT [] [(1,3)] rfl (by cases u <;> (exact sk)) (sk) fun e0 H0 hq=>?_
  obtain⟨rfl,rfl⟩:=hq
  refine⟨rfl,_,⟨5,[(4,bO (s++[32])),(0,wO 4 (wB ⟨s,n,true⟩ [32])),(2,sU l)]⟩,rfl,rfl,?_⟩
  refine(qMY true ⟨s++[32],n,true⟩ x (by show n+(s++[32]).length≤_;simp;omega) (by omega)).holds.useT [] [(1,4)] rfl (sk) (sk) fun e0 H0 hq=>?_
  obtain⟨rfl,rfl⟩:=hq
  refine⟨rfl,_,⟨6,[(5,bO ((s++[32])++x)),(0,wO 5 (wB ⟨s++[32],n,true⟩ x)),(2,sU l)]⟩,rfl,rfl,?_⟩
  refine⟨((n:Nat):Int)+1,w6z,?_⟩
  refine⟨((k:Nat):Int)+1,w6z,?_⟩
  exact⟨(⟨(s++[32])++x,n+1,true⟩,k+1,true),⟨hk,fun _=>rfl,by rw [e];simp [qMx]⟩,qAC [] [(3,5)] [] rfl (sk) (sk) rfl,by show l.length - (k+1)<l.length - k;omega⟩
end Go.Proofs.YtohfoaplnjcihaaGreatDoor
namespace Go.Proofs
open Go.Shelf
def Tryz.laysM171_ren:Go.Shelf.Ren:=⟨fun | 171=>69 | 243=>113 | 246=>157 | 283=>181 | 284=>182 | 285=>183 | 286=>184 | 129=>198 | 317=>197 | 318=>199 | 319=>200 | 320=>201 | 337=>204 | 338=>205 | n=>n,fun | 3=>3 | 9=>9 | 2=>2 | 4=>4 | 171=>233 | 0=>0 | 53=>190 | 37=>40 | 5=>5 | 173=>236 | 212=>245 | 51=>187 | 20=>20 | 213=>246 | 46=>144 | 232=>252 | 233=>253 | n=>n,fun | 17=>5 | 18=>6 | 19=>7 | n=>n⟩
theorem Tryz.laysM171:Go.Proofs.LaysM.n171 Tryz.prog Tryz.laysM171_ren:={
 mixed:=by kernel_rfl
 f129:=Tryz.func198.trans (congrArg some (by kernel_rfl))
 f171:=Tryz.func69.trans (congrArg some (by kernel_rfl))
 f243:=Tryz.func113.trans (congrArg some (by kernel_rfl))
 f246:=Tryz.func157.trans (congrArg some (by kernel_rfl))
 f283:=Tryz.func181.trans (congrArg some (by kernel_rfl))
 f284:=Tryz.func182.trans (congrArg some (by kernel_rfl))
 f285:=Tryz.func183.trans (congrArg some (by kernel_rfl))
 f286:=Tryz.func184.trans (congrArg some (by kernel_rfl))
 f317:=Tryz.func197.trans (congrArg some (by kernel_rfl))
 f318:=Tryz.func199.trans (congrArg some (by kernel_rfl))
 f319:=Tryz.func200.trans (congrArg some (by kernel_rfl))
 f320:=Tryz.func201.trans (congrArg some (by kernel_rfl))
 f337:=Tryz.func204.trans (congrArg some (by kernel_rfl))
 f338:=Tryz.func205.trans (congrArg some (by kernel_rfl))
 t0:=Tryz.underlying0
 a0:=Tryz.isAgg0
 z0:=Tryz.sizeOf0
 v0:=Tryz.zeroValue0
 t2:=Tryz.underlying2
 a2:=Tryz.isAgg2
 z2:=Tryz.sizeOf2
 v2:=Tryz.zeroValue2
 t3:=Tryz.underlying3
 a3:=Tryz.isAgg3
 z3:=Tryz.sizeOf3
 v3:=Tryz.zeroValue3
 t4:=Tryz.underlying4
 a4:=Tryz.isAgg4
 z4:=Tryz.sizeOf4
 v4:=Tryz.zeroValue4
 t5:=Tryz.underlying5
 a5:=Tryz.isAgg5
 z5:=Tryz.sizeOf5
 v5:=Tryz.zeroValue5
 t9:=Tryz.underlying9
 a9:=Tryz.isAgg9
 z9:=Tryz.sizeOf9
 v9:=Tryz.zeroValue9
 t20:=Tryz.underlying20
 a20:=Tryz.isAgg20
 z20:=Tryz.sizeOf20
 v20:=Tryz.zeroValue20
 t37:=Tryz.underlying40
 a37:=Tryz.isAgg40
 z37:=Tryz.sizeOf40
 v37:=Tryz.zeroValue40
 t46:=Tryz.underlying144
 a46:=Tryz.isAgg144
 z46:=Tryz.sizeOf144
 v46:=Tryz.zeroValue144
 t51:=Tryz.underlying187
 a51:=Tryz.isAgg187
 z51:=Tryz.sizeOf187
 v51:=Tryz.zeroValue187
 t53:=Tryz.underlying190
 a53:=Tryz.isAgg190
 z53:=Tryz.sizeOf190
 v53:=Tryz.zeroValue190
 t171:=Tryz.underlying233
 a171:=Tryz.isAgg233
 z171:=Tryz.sizeOf233
 v171:=Tryz.zeroValue233
 t173:=Tryz.underlying236
 a173:=Tryz.isAgg236
 z173:=Tryz.sizeOf236
 v173:=Tryz.zeroValue236
 t212:=Tryz.underlying245
 a212:=Tryz.isAgg245
 z212:=Tryz.sizeOf245
 v212:=Tryz.zeroValue245
 t213:=Tryz.underlying246
 a213:=Tryz.isAgg246
 z213:=Tryz.sizeOf246
 t232:=Tryz.underlying252
 a232:=Tryz.isAgg252
 z232:=Tryz.sizeOf252
 v232:=Tryz.zeroValue252
 t233:=Tryz.underlying253
 a233:=Tryz.isAgg253
 z233:=Tryz.sizeOf253
 v233:=Tryz.zeroValue253
 g17:=by kernel_rfl
 g18:=by kernel_rfl
 g19:=by kernel_rfl
 i0:=by kernel_rfl
 i2:=by kernel_rfl
 i3:=by kernel_rfl
 i4:=by kernel_rfl
 i5:=by kernel_rfl
 i9:=by kernel_rfl
 i20:=by kernel_rfl
 i37:=by kernel_rfl
 i46:=by kernel_rfl
 i51:=by kernel_rfl
 i53:=by kernel_rfl
 i171:=by kernel_rfl
 i173:=by kernel_rfl
 i212:=by kernel_rfl
 i232:=by kernel_rfl
 i233:=by kernel_rfl
 m17:=by kernel_rfl
 m18:=by kernel_rfl
 m19:=by kernel_rfl }
open Go.RowKit Go.Sort Go.Lib in
theorem Tryz.strconv_Itoa (n : Int) (h0 : -9223372036854775808 ≤ n) (h1 : n ≤ 9223372036854775807) (w : World) (htab : Lib.TabIs Tryz.prog w "internal/strconv.uint64pow10" .u64 Lib.pow10Tab) :
  Calls Tryz.prog 69 #[.int .i64 n] w fun e w'=>e=.returned (.string ⟨(Lib.itoa n).toArray⟩)∧∃ k os,w'=grow (w.drewN k) os:=Any.strconv_Itoa Tryz.laysM171 n h0 h1 w htab
end Go.Proofs
namespace Go.Proofs.YtohfoaplnjcihaaGreatDoor
open Go Y RowKit
set_option maxRecDepth 100000
set_option maxHeartbeats 4000000
theorem qLk {Γ:Gm} {w w':World} (hR:R cx Γ ⟨0,[]⟩ w) (hb:Below w.heap.size w w'):Later cx 0 Γ ⟨0,[]⟩ w Γ ⟨0,[]⟩ w':=by
 have hfz:∀ b arr,Γ.fz b=some arr→∃ t z,w'.heap[b]?=some (.cells ⟨arr⟩ t z):=by
  intro b arr h
  obtain⟨t,z,e⟩:=hR.fzok b arr h
  have hlt:b<w.heap.size:=by
   rcases Nat.lt_or_ge b w.heap.size with h1 | h1
   ·exact h1
   ·rw [Array.getElem?_eq_none h1] at e;cases e
  exact⟨t,z,by rw [hb.block b hlt];exact e⟩
 refine⟨⟨hR.glob,hR.fresh,hfz,fun n o hn=>by simp [qAh] at hn,fun n o q hn=>by simp [qAh] at hn,fun n o m p q q' hn=>by simp [qAh] at hn⟩,Ext.refl _ _,Nat.le_refl _,⟨hb.os,hb.tape,hb.output,hb.size,fun k hk _=>hb.block k hk,fun k hk=>.inr hk,Fzn.le_refl _,fun k a h=>.inl h⟩⟩
theorem qN8 {g : FuncId} {fn : Func} {c : Code} {args : List PV} {x : PV} (hf : cx.P.funcs[g]? = some fn) (hname : (fn.name == "runtime.NumGoroutine") = false) (hbd : fn.body = some c) (hx : Res [] 5 (.p x) x)
  (h:∀ (Γ:Gm) (w:World) (args':List Value),R cx Γ ⟨0,[]⟩ w→VRL Γ (args.map .p) args'→∃ v',VP Γ.fz x v'∧Calls cx.P g ⟨args'⟩ w fun e w'=>e=.returned v'∧Below w.heap.size w w'):Pure cx g args (·=.ret [x]):=by
 intro Γ w args' hR hA
 obtain⟨v',h1,h2⟩:=h Γ w args' hR hA
 refine .inl ⟨qEG hf hname hbd _ _,h2.mono fun e w' ⟨he,hw⟩=>?_⟩
 subst he
 exact⟨.returned (.p x),⟨0,[]⟩,Γ,⟨.ret [x],⟨rfl,_,rfl,hx⟩,rfl⟩,⟨v',rfl,h1⟩,qLk hR hw⟩
theorem qOq {fz:Fzn} {k:IntKind}:∀ (l:List Int) (us:List Value),VPL fz (l.map fun z=>PV.int k z) us→us=l.map fun z=>Value.int k z
 | [],us,h=>by simpa only [List.map,VPL] using h
 | z::l,us,h=>by
  simp only [List.map,VPL,VP] at h
  obtain⟨u,us',rfl,rfl,h⟩:=h
  rw [qOq l us' h];rfl
theorem qRu {Γ : Gm} {w : World} (hR : R cx Γ ⟨0, []⟩ w) : Lib.TabIs Tryz.prog w "internal/strconv.uint64pow10" .u64 Lib.pow10Tab := by
 obtain⟨h,arr',ha,hlen⟩:=hR.glob 5 (pow10L.map fun z=>PV.int .u64 z) rfl
 simp only [VP] at h
 obtain⟨b,o,arr,us,h1,h2,h5,pre,post,h3,h4,_⟩:=h
 injection h1 with h1
 injection h1 with h1
 injection h1 with hb ho
 subst hb ho
 have hus:=qOq _ _ h5
 have hp:pre=[]:=List.eq_nil_of_length_eq_zero h4
 subst hp
 have e1:arr'=arr:=by rw [ha] at h2;injection h2
 subst e1
 have hpost:post=[]:=by
  apply List.eq_nil_of_length_eq_zero
  rw [h3,hus] at hlen
  simp only [List.length_append,List.length_map,List.length_nil] at hlen
  omega
 subst hpost
 obtain⟨t,z,e⟩:=hR.fzok _ _ h2
 have hg : Tryz.prog.globalNamed "internal/strconv.uint64pow10" = some 5 := by kernel_rfl
 unfold Lib.TabIs World.var?
 rw [hg]
 simp only [Option.bind,e,h3,hus,List.nil_append,List.append_nil]
 rfl
theorem qSZ:∀ n,n<10→UInt8.ofNat (48+n)=tenL.getD n 0:=by decide
theorem qQl:∀ (f n:Nat),n<10 ^ (f+1)→Lib.decDigits n=digN (f+1) n
 | f,n,h=>by
  rw [Lib.decDigits,digN]
  by_cases c:n<10
  ·rw [dif_pos c,if_pos c,qSZ n c]
  ·rw [dif_neg c,if_neg c]
   obtain⟨g,rfl⟩:∃ g,f=g+1:=by
    cases f with
    | zero=>exfalso;omega
    | succ g=>exact⟨g,rfl⟩
   rw [qQl g (n / 10) (by rw [Nat.pow_succ] at h;omega),qSZ (n % 10) (by omega)]
theorem qCe (n:Int) (h:qBh n=true):Pure cx 69 [i64 n] (·=.ret [.str (qAZ n)]):=by
 simp only [qBh,Bool.and_eq_true,decide_eq_true_eq] at h
 refine qN8 Tryz.func69 rfl rfl rfl fun Γ w args' hR hA=>?_
 simp only [List.map,VRL,VR,VP] at hA
 obtain⟨a,as',rfl,rfl,rfl⟩:=hA
 have e:Lib.itoa n=qAZ n:=by
  rw [Lib.itoa,if_neg (by omega),qQl 3 n.toNat (by show n.toNat<10000;omega)];rfl
 have hi:=Tryz.strconv_Itoa n (by omega) (by omega) w (qRu hR)
 rw [e] at hi
 refine⟨_,rfl,hi.mono fun e w' ⟨h1,k,os,h2⟩=>⟨h1,?_⟩⟩
 subst h2
 exact⟨rfl,rfl,rfl,by show w.heap.size≤(w.heap++os).size;rw [Array.size_append];omega,fun j hj=>by show(w.heap++os)[j]?=_;rw [Array.getElem?_append_left hj]⟩
end Go.Proofs.YtohfoaplnjcihaaGreatDoor
namespace Go.Proofs.YtohfoaplnjcihaaGreatDoor
open Go Y
set_option maxRecDepth 100000
set_option maxHeartbeats 4000000
theorem qPV (st:Wst) (r:Rf) (hr:qBk r=true) (hb:st.sz+wt (qBW r)≤100000000):HoldsG cx 114 [.ptr 0 0 0, .p r.pv] (wH true st) (WQ (puts st (qBW r))):=by
 obtain⟨nm,m,pl,n⟩:=r
 rw [qBk,Bool.and_eq_true] at hr
 obtain⟨hn,hr⟩:=hr
 simp only [] at hr hn
 by_cases h3:m=3
 ·subst h3
  have e:qBW ⟨nm,3,pl,n⟩=([]++[nm])++[tLB,qGz,tRB]:=rfl
  rw [e] at hb ⊢
  refine qAA Tryz.func114 rfl rfl rfl ?_
  refine(qA2 true (puts st ([])) ([nm]) (by simp) (by have hz:=qAI ([]) st;simp only [qAL,wt] at hb hz ⊢;omega)).holds.useT [] [(2,3)] rfl (sk) (sk) fun e0 H0 hq=>?_
  rw [← qAE] at hq
  obtain⟨rfl,rfl⟩:=hq
  refine⟨rfl,_,⟨5,((4,bO (puts st ([]++[nm])).s)::(0,wO 4 (puts st ([]++[nm])))::[(2,rO ⟨nm,3,pl,n⟩)])⟩,rfl,rfl,?_⟩
  refine And.intro (fun h=>absurd (show(3:Int)=1 from h) (by decide)) (fun _=>?_)
  refine And.intro (fun h=>absurd (show(3:Int)=2 from h) (by decide)) (fun _=>?_)
  refine And.intro (fun _=>?_) (fun h=>absurd rfl h)
  refine(qA2 true (puts st ([]++[nm])) ([tLB,qGz,tRB]) (by simp) (by have hz:=qAI ([]++[nm]) st;simp only [qAL,wt] at hb hz ⊢;omega)).holds.useT [] [(1,4),(2,5)] rfl (sk) (sk) fun e0 H0 hq=>?_
  rw [← qAE] at hq
  obtain⟨rfl,rfl⟩:=hq
  refine⟨rfl,_,⟨7,((6,bO (puts st ([]++[nm]++[tLB,qGz,tRB])).s)::(0,wO 6 (puts st ([]++[nm]++[tLB,qGz,tRB])))::[(2,rO ⟨nm,3,pl,n⟩)])⟩,rfl,rfl,?_⟩
  exact⟨[],[(2,6)],[], .returned und,_,rfl,sk,sk,rfl,rfl⟩
 by_cases h2:m=2
 ·subst h2
  have hr:(decide (pl=[]) && qBh n)=true:=hr
  simp only [Bool.and_eq_true] at hr
  have e:qBW ⟨nm,2,pl,n⟩=([]++[nm])++[tLB,qAZ n,tRB]:=rfl
  rw [e] at hb ⊢
  refine qAA Tryz.func114 rfl rfl rfl ?_
  refine(qA2 true (puts st ([])) ([nm]) (by simp) (by have hz:=qAI ([]) st;simp only [qAL,wt] at hb hz ⊢;omega)).holds.useT [] [(2,3)] rfl (sk) (sk) fun e0 H0 hq=>?_
  rw [← qAE] at hq
  obtain⟨rfl,rfl⟩:=hq
  refine⟨rfl,_,⟨5,((4,bO (puts st ([]++[nm])).s)::(0,wO 4 (puts st ([]++[nm])))::[(2,rO ⟨nm,2,pl,n⟩)])⟩,rfl,rfl,?_⟩
  refine And.intro (fun h=>absurd (show(2:Int)=1 from h) (by decide)) (fun _=>?_)
  refine And.intro (fun _=>?_) (fun h=>absurd rfl h)
  refine(qCe n hr.2).eq rfl ?_
  refine(qA2 true (puts st ([]++[nm])) ([tLB,qAZ n,tRB]) (by simp) (by have hz:=qAI ([]++[nm]) st;simp only [qAL,wt] at hb hz ⊢;omega)).holds.useT [] [(1,4),(2,5)] rfl (sk) (sk) fun e0 H0 hq=>?_
  rw [← qAE] at hq
  obtain⟨rfl,rfl⟩:=hq
  refine⟨rfl,_,⟨7,((6,bO (puts st ([]++[nm]++[tLB,qAZ n,tRB])).s)::(0,wO 6 (puts st ([]++[nm]++[tLB,qAZ n,tRB])))::[(2,rO ⟨nm,2,pl,n⟩)])⟩,rfl,rfl,?_⟩
  exact⟨[],[(2,6)],[], .returned und,_,rfl,sk,sk,rfl,rfl⟩
 by_cases h1:m=1
 ·subst h1
  have hr:(qAp pl && qBh n)=true:=hr
  simp only [Bool.and_eq_true] at hr
  by_cases h0:0<n
  ·have e:qBW ⟨nm,1,pl,n⟩=((([]++[nm])++[tLB,pl])++[qEA,qAZ n])++[tRB]:=by simp [qBW,qEn,h0]
   rw [e] at hb ⊢
   refine qAA Tryz.func114 rfl rfl rfl ?_
   refine(qA2 true (puts st ([])) ([nm]) (by simp) (by have hz:=qAI ([]) st;simp only [qAL,wt] at hb hz ⊢;omega)).holds.useT [] [(2,3)] rfl (sk) (sk) fun e0 H0 hq=>?_
   rw [← qAE] at hq
   obtain⟨rfl,rfl⟩:=hq
   refine⟨rfl,_,⟨5,((4,bO (puts st ([]++[nm])).s)::(0,wO 4 (puts st ([]++[nm])))::[(2,rO ⟨nm,1,pl,n⟩)])⟩,rfl,rfl,?_⟩
   refine And.intro (fun _=>?_) (fun h=>absurd rfl h)
   refine(qA2 true (puts st ([]++[nm])) ([tLB,pl]) (by simp) (by have hz:=qAI ([]++[nm]) st;simp only [qAL,wt] at hb hz ⊢;omega)).holds.useT [] [(1,4),(2,5)] rfl (sk) (sk) fun e0 H0 hq=>?_
   rw [← qAE] at hq
   obtain⟨rfl,rfl⟩:=hq
   refine⟨rfl,_,⟨7,((6,bO (puts st ([]++[nm]++[tLB,pl])).s)::(0,wO 6 (puts st ([]++[nm]++[tLB,pl])))::[(2,rO ⟨nm,1,pl,n⟩)])⟩,rfl,rfl,?_⟩
   refine And.intro (fun _=>?_) (fun h=>absurd h0 h)
   refine(qCe n hr.2).eq rfl ?_
   refine(qA2 true (puts st (([]++[nm])++[tLB,pl])) ([qEA,qAZ n]) (by simp) (by have hz:=qAI (([]++[nm])++[tLB,pl]) st;simp only [qAL,wt] at hb hz ⊢;omega)).holds.useT [] [(1,6),(2,7)] rfl (sk) (sk) fun e0 H0 hq=>?_
   rw [← qAE] at hq
   obtain⟨rfl,rfl⟩:=hq
   refine⟨rfl,_,⟨9,((8,bO (puts st (([]++[nm])++[tLB,pl]++[qEA,qAZ n])).s)::(0,wO 8 (puts st (([]++[nm])++[tLB,pl]++[qEA,qAZ n])))::[(2,rO ⟨nm,1,pl,n⟩)])⟩,rfl,rfl,?_⟩
   refine(qA2 true (puts st ((([]++[nm])++[tLB,pl])++[qEA,qAZ n])) ([tRB]) (by simp) (by have hz:=qAI ((([]++[nm])++[tLB,pl])++[qEA,qAZ n]) st;simp only [qAL,wt] at hb hz ⊢;omega)).holds.useT [] [(1,8),(2,9)] rfl (sk) (sk) fun e0 H0 hq=>?_
   rw [← qAE] at hq
   obtain⟨rfl,rfl⟩:=hq
   refine⟨rfl,_,⟨11,((10,bO (puts st ((([]++[nm])++[tLB,pl])++[qEA,qAZ n]++[tRB])).s)::(0,wO 10 (puts st ((([]++[nm])++[tLB,pl])++[qEA,qAZ n]++[tRB])))::[(2,rO ⟨nm,1,pl,n⟩)])⟩,rfl,rfl,?_⟩
   exact⟨[],[(2,10)],[], .returned und,_,rfl,sk,sk,rfl,rfl⟩
  ·have e:qBW ⟨nm,1,pl,n⟩=(([]++[nm])++[tLB,pl])++[tRB]:=by simp [qBW,qEn,h0]
   rw [e] at hb ⊢
   refine qAA Tryz.func114 rfl rfl rfl ?_
   refine(qA2 true (puts st ([])) ([nm]) (by simp) (by have hz:=qAI ([]) st;simp only [qAL,wt] at hb hz ⊢;omega)).holds.useT [] [(2,3)] rfl (sk) (sk) fun e0 H0 hq=>?_
   rw [← qAE] at hq
   obtain⟨rfl,rfl⟩:=hq
   refine⟨rfl,_,⟨5,((4,bO (puts st ([]++[nm])).s)::(0,wO 4 (puts st ([]++[nm])))::[(2,rO ⟨nm,1,pl,n⟩)])⟩,rfl,rfl,?_⟩
   refine And.intro (fun _=>?_) (fun h=>absurd rfl h)
   refine(qA2 true (puts st ([]++[nm])) ([tLB,pl]) (by simp) (by have hz:=qAI ([]++[nm]) st;simp only [qAL,wt] at hb hz ⊢;omega)).holds.useT [] [(1,4),(2,5)] rfl (sk) (sk) fun e0 H0 hq=>?_
   rw [← qAE] at hq
   obtain⟨rfl,rfl⟩:=hq
   refine⟨rfl,_,⟨7,((6,bO (puts st ([]++[nm]++[tLB,pl])).s)::(0,wO 6 (puts st ([]++[nm]++[tLB,pl])))::[(2,rO ⟨nm,1,pl,n⟩)])⟩,rfl,rfl,?_⟩
   refine And.intro (fun h=>absurd h h0) (fun _=>?_)
   refine(qA2 true (puts st (([]++[nm])++[tLB,pl])) ([tRB]) (by simp) (by have hz:=qAI (([]++[nm])++[tLB,pl]) st;simp only [qAL,wt] at hb hz ⊢;omega)).holds.useT [] [(1,6),(2,7)] rfl (sk) (sk) fun e0 H0 hq=>?_
   rw [← qAE] at hq
   obtain⟨rfl,rfl⟩:=hq
   refine⟨rfl,_,⟨9,((8,bO (puts st (([]++[nm])++[tLB,pl]++[tRB])).s)::(0,wO 8 (puts st (([]++[nm])++[tLB,pl]++[tRB])))::[(2,rO ⟨nm,1,pl,n⟩)])⟩,rfl,rfl,?_⟩
   exact⟨[],[(2,8)],[], .returned und,_,rfl,sk,sk,rfl,rfl⟩
 ·have e:qBW ⟨nm,m,pl,n⟩=[]++[nm]:=by simp [qBW,qEn,h1,h2,h3]
  rw [e] at hb ⊢
  refine qAA Tryz.func114 rfl rfl rfl ?_
  refine(qA2 true (puts st ([])) ([nm]) (by simp) (by have hz:=qAI ([]) st;simp only [qAL,wt] at hb hz ⊢;omega)).holds.useT [] [(2,3)] rfl (sk) (sk) fun e0 H0 hq=>?_
  rw [← qAE] at hq
  obtain⟨rfl,rfl⟩:=hq
  refine⟨rfl,_,⟨5,((4,bO (puts st ([]++[nm])).s)::(0,wO 4 (puts st ([]++[nm])))::[(2,rO ⟨nm,m,pl,n⟩)])⟩,rfl,rfl,?_⟩
  refine And.intro (fun h=>absurd h h1) (fun _=>?_)
  refine And.intro (fun h=>absurd h h2) (fun _=>?_)
  refine And.intro (fun h=>absurd h h3) (fun _=>?_)
  exact⟨[],[(2,4)],[], .returned und,_,rfl,sk,sk,rfl,rfl⟩
theorem qMd {α:Type} {f:α→qBT} {l:List α} {k:Nat} (d:α) (h:k<l.length):qEv f (l.take (k+1))=qEv f (l.take k)++((if k=0 then [] else [qAt])++f (l.getD k d)):=by
 rw [qAW d h]
 cases k with
 | zero=>simp [qEv]
 | succ k=>
  rw [if_neg (by omega)]
  cases l with
  | nil=>simp at h
  | cons a l=>simp [qEv]
theorem qSg {α:Type} {f:α→qBT} (l:List α) (k:Nat):wt (qEv f (l.take k))≤wt (qEv f l):=by
 cases l with
 | nil=>simp
 | cons a l=>
  cases k with
  | zero=>exact Nat.zero_le _
  | succ k=>
   have e:l.flatMap (fun b=>qAt::f b)=(l.take k).flatMap (fun b=>qAt::f b)++(l.drop k).flatMap fun b=>qAt::f b:=by rw [← List.flatMap_append,List.take_append_drop]
   rw [List.take_succ_cons,qEv,qEv,e,qAL,qAL,qAL]
   omega
theorem qPT {key:List UInt8} {l:List Rf} {k:Nat} (h:k<l.length):qAd key (l.take (k+1))=(qAd key (l.take k)++[if k=0 then key else qAt])++qBW (l.getD k rf0):=by
 have hs:=qMd (f:=qBW) rf0 h
 have hn:l.take (k+1) ≠ []:=fun e=>by have:=congrArg List.length e;rw [List.length_take,List.length_nil] at this;omega
 rw [qAd,if_neg hn,hs]
 by_cases c:k=0
 ·subst c;simp [qAd,qEv]
 ·have hn:l.take k ≠ []:=fun e=>by have:=congrArg List.length e;rw [List.length_take,List.length_nil] at this;omega
  rw [qAd,if_neg hn,if_neg c,if_neg c];simp
theorem qTb {key:List UInt8} (l:List Rf) (k:Nat):wt (qAd key (l.take k))≤wt (qAd key l):=by
 unfold qAd
 split
 ·exact Nat.zero_le _
 ·rename_i h
  rw [if_neg (fun e=>h (by rw [e];simp))]
  have:=qSg (f:=qBW) l k
  simp only [wt];omega
theorem qMp (st:Wst) (key:List UInt8) (l:List Rf) (hv:∀ r∈l,qBk r=true) (hl:l.length≤8) (hb0:st.sz+wt (qAd key l)≤100000000):HoldsG cx 71 [.ptr 0 0 0, .p (.str key), .p (qBu l)] (wH true st) (WQ (puts st (qAd key l))):=by
 have hm:(l.map Rf.cells).length=l.length:=List.length_map ..
 refine qAA Tryz.func71 rfl rfl rfl ?_
 refine⟨qBT × Nat,fun x=>[(0, .ptr 0 0 0),(1, .p (.str key)),(8, .p (qBu l)),(9, .p (i64 (l.map Rf.cells).length)),(10, .p (i64 x.2))],fun x=>wH' (puts st x.1),fun x=>x.2≤l.length∧x.1=qAd key (l.take x.2),fun x=>l.length - x.2,?_,?_⟩
 ·exact⟨([],0),⟨Nat.zero_le _,rfl⟩,qAC [] [(2,1)] [] rfl (sk) (sk) rfl⟩
 rintro⟨P,k⟩ ⟨k1,k2⟩
 simp only [] at k1 k2
 (first | refine qAP (fun m1=>?_) (fun m1=>?_) | refine qAQ (fun m1=>?_) (fun m1=>?_) | refine qAR (fun m1=>?_) (fun m1=>?_))
 rotate_left
 ·have m1:¬ (k:Int)<((l.map Rf.cells).length:Nat):=m1
  rw [hm] at m1
  have e:l.take k=l:=qBY (by omega)
  rw [e] at k2
  exact⟨[],[(2,2)],[], .returned und,wH' (puts st P),rfl,sk,sk,rfl,by rw [k2]⟩
 have m1:(k:Int)<((l.map Rf.cells).length:Nat):=m1
 rw [hm] at m1
 have hk:k<l.length:=by omega
 have hr:=hv _ (qAK rf0 hk)
 have et:=qPT (key:=key) hk
 have hw:=qTb (key:=key) l (k+1)
 have hcell:=qJP hk
 generalize l.getD k rf0=r at hr et hcell
 rw [et,← k2] at hw
 rw [← k2] at et
 clear k2
 have hb:st.sz+wt ((P++[if k=0 then key else qAt])++qBW r)≤100000000:=by omega
 refine⟨_,⟨by omega,r.cells,hcell,rfl⟩,?_⟩
 by_cases c:k=0
 ·rw [if_pos c] at hb et
  refine And.intro (fun _=>?_) (fun h=>absurd (show(k:Int)=0 by omega) h)
  refine(qA2 true (puts st (P)) ([key]) (by simp) (by have hz:=qAI (P) st;simp only [qAL,wt] at hb hz ⊢;omega)).holds.useT [] [(1,2),(2,4)] rfl (sk) (sk) fun e0 H0 hq=>?_
  rw [← qAE] at hq
  obtain⟨rfl,rfl⟩:=hq
  refine⟨rfl,_,⟨6,((5,bO (puts st (P++[key])).s)::(0,wO 5 (puts st (P++[key])))::[(3,rO r)])⟩,rfl,rfl,?_⟩
  refine(qPV (puts st (P++[key])) r hr (by have hz:=qAI (P++[key]) st;simp only [qAL,wt] at hb hz ⊢;omega)).holds.useT [] [(1,5)] rfl (sk) (sk) fun e0 H0 hq=>?_
  unfold WQ at hq
  rw [← qAE] at hq
  obtain⟨rfl,rfl⟩:=hq
  refine⟨rfl,_,⟨7,((6,bO (puts st ((P++[key])++qBW r)).s)::(0,wO 6 (puts st ((P++[key])++qBW r)))::[(3,rO r)])⟩,rfl,rfl,?_⟩
  refine⟨_,w6z,?_⟩
  exact⟨((P++[key])++qBW r,k+1),⟨hk,et.symm⟩,qAC [] [(2,6)] [] rfl (sk) (sk) rfl,by show l.length - (k+1)<l.length - k;omega⟩
 ·rw [if_neg c] at hb et
  refine And.intro (fun h=>absurd (show(k:Int)=0 from h) (by omega)) (fun _=>?_)
  refine(qA2 true (puts st (P)) ([qAt]) (by simp) (by have hz:=qAI (P) st;simp only [qAL,wt] at hb hz ⊢;omega)).holds.useT [] [(1,2),(2,4)] rfl (sk) (sk) fun e0 H0 hq=>?_
  rw [← qAE] at hq
  obtain⟨rfl,rfl⟩:=hq
  refine⟨rfl,_,⟨6,((5,bO (puts st (P++[qAt])).s)::(0,wO 5 (puts st (P++[qAt])))::[(3,rO r)])⟩,rfl,rfl,?_⟩
  refine(qPV (puts st (P++[qAt])) r hr (by have hz:=qAI (P++[qAt]) st;simp only [qAL,wt] at hb hz ⊢;omega)).holds.useT [] [(1,5)] rfl (sk) (sk) fun e0 H0 hq=>?_
  unfold WQ at hq
  rw [← qAE] at hq
  obtain⟨rfl,rfl⟩:=hq
  refine⟨rfl,_,⟨7,((6,bO (puts st ((P++[qAt])++qBW r)).s)::(0,wO 6 (puts st ((P++[qAt])++qBW r)))::[(3,rO r)])⟩,rfl,rfl,?_⟩
  refine⟨_,w6z,?_⟩
  exact⟨((P++[qAt])++qBW r,k+1),⟨hk,et.symm⟩,qAC [] [(2,6)] [] rfl (sk) (sk) rfl,by show l.length - (k+1)<l.length - k;omega⟩
end Go.Proofs.YtohfoaplnjcihaaGreatDoor
namespace Go.Proofs.YtohfoaplnjcihaaGreatDoor
open Go Y
set_option maxRecDepth 100000
set_option maxHeartbeats 4000000
theorem qO1:∀ n,n<10→(tenL.getD n 0).toNat=48+n:=by decide
structure DigOK (t:List UInt8) (n:Nat) (f:Nat):Prop where
 ne:t ≠ []
 len:t.length≤f
 dig:∀ c∈t,48≤c.toNat∧c.toNat≤57
 zero:n=0→t=[48]
 head:0<n→(t.headD 0).toNat ≠ 48
 val:qI8 t=n
theorem qS9:∀ (f n:Nat),n<10 ^ (f+1)→DigOK (digN (f+1) n) n (f+1)
 | f,n,h=>by
  rw [digN]
  by_cases c:n<10
  ·rw [if_pos c]
   have hv:=qO1 n c
   refine⟨by simp,by simp,fun x hx=>?_,fun e=>by subst e;rfl,fun e=>?_,?_⟩
   ·rw [List.mem_singleton.1 hx];omega
   ·show(tenL.getD n 0).toNat ≠ 48;omega
   ·show 10 * (0:Int)+(((tenL.getD n 0).toNat:Int) - 48)=n;omega
  ·rw [if_neg c]
   obtain⟨g,rfl⟩:∃ g,f=g+1:=by
    cases f with
    | zero=>exfalso;omega
    | succ g=>exact⟨g,rfl⟩
   have ih:=qS9 g (n / 10) (by rw [Nat.pow_succ] at h;omega)
   have hv:=qO1 (n % 10) (by omega)
   refine⟨by simp,by have:=ih.len;simp only [List.length_append,List.length_singleton];omega,fun x hx=>?_,fun e=>by omega,fun _=>?_,?_⟩
   ·rcases List.mem_append.1 hx with hx | hx
    ·exact ih.dig x hx
    ·rw [List.mem_singleton.1 hx];omega
   ·have hh:=ih.head (by omega)
    have hne:=ih.ne
    cases hd:digN (g+1) (n / 10) with
    | nil=>exact absurd hd hne
    | cons x r=>rw [hd] at hh;exact hh
   ·rw [qFR,ih.val];omega
theorem qJo {n:Int} (h:qBh n=true):qJY (qAZ n)=true∧qI8 (qAZ n)=n:=by
 simp only [qBh,Bool.and_eq_true,decide_eq_true_eq] at h
 have hd:=qS9 3 n.toNat (by show n.toNat<10000;omega)
 refine⟨?_,by rw [qAZ,hd.val];omega⟩
 unfold qJY qAZ
 simp only [Bool.and_eq_true,decide_eq_true_eq,Bool.or_eq_true]
 refine⟨⟨⟨hd.ne,hd.len⟩,qO7.2 fun c hc=>?_⟩,?_⟩
 ·have:=hd.dig c hc
  simp only [qCD,Bool.and_eq_true,decide_eq_true_eq];exact this
 ·by_cases c:n.toNat=0
  ·exact .inl (hd.zero c)
  ·exact .inr (hd.head (by omega))
def AtW (ws:List Wd):Nat→qBT→Prop
 | _,[]=>True
 | q,t::r=>txt ws q=t∧AtW ws (q+1) r
theorem qP1 {t s:List UInt8} (h:qAp t=true) (hs:s∈keysL++marksL):t ≠ s:=by
 intro e
 subst e
 have key:∀ s∈keysL++marksL,qAp s=false:=by decide
 rw [key t hs] at h
 cases h
theorem qSw {t s:List UInt8} (h:qJY t=true) (hs:s∈keysL++marksL):t ≠ s:=by
 intro e
 subst e
 have key:∀ s∈keysL++marksL,qJY s=false:=by decide
 rw [key t hs] at h
 cases h
section
variable {ws:List Wd} (hg:GoodW ws)
include hg
end
end Go.Proofs.YtohfoaplnjcihaaGreatDoor
namespace Go.Proofs.YtohfoaplnjcihaaGreatDoor
open Go Y
set_option maxRecDepth 100000
set_option maxHeartbeats 4000000
theorem qQR {l:List Int}:∀ (f k:Nat),qOh l f k=true→∀ i,k≤i→i<k+f→qBh (l.getD i 0)=true∧(i=0∨l.getD (i - 1) 0<l.getD i 0)
 | 0,k,_,i,h1,h2=>absurd h2 (by omega)
 | f+1,k,h,i,h1,h2=>by
  rw [qOh] at h
  simp only [Bool.and_eq_true,Bool.or_eq_true,decide_eq_true_eq] at h
  by_cases c:i=k
  ·subst c
   exact h.1
  ·exact qQR f (k+1) h.2 i (by omega) (by omega)
theorem qDZ {l:List Int} (h:qG0 l=true):l ≠ []∧(∀ n∈l,qBh n=true)∧qOg l=l:=by
 simp only [qG0,Bool.and_eq_true,decide_eq_true_eq] at h
 obtain⟨⟨h1,h2⟩,h3⟩:=h
 have hi:=qQR l.length 0 h3
 refine⟨fun e=>by rw [e] at h1;simp at h1,fun n hn=>?_,?_⟩
 ·obtain⟨i,hi1,rfl⟩:=List.getElem_of_mem hn
  have:=(hi i (by omega) (by omega)).1
  rw [List.getD_eq_getElem?_getD,List.getElem?_eq_getElem hi1] at this
  exact this
 ·have hinc:Inc l:=by
   rw [Inc,List.pairwise_iff_getElem]
   have key:∀ (d i:Nat),i+d+1<l.length→l.getD i 0<l.getD (i+d+1) 0:=by
    intro d
    induction d with
    | zero=>
     intro i hd
     have:=(hi (i+0+1) (by omega) (by omega)).2
     rcases this with h | h
     ·omega
     ·exact h
    | succ d ih=>
     intro i hd
     have a:=ih i (by omega)
     have:=(hi (i+(d+1)+1) (by omega) (by omega)).2
     rcases this with h | h
     ·omega
     ·rw [show i+(d+1)+1 - 1=i+d+1 by omega] at h
      omega
   intro i j hi1 hj hij
   have:=key (j - i - 1) i (by omega)
   rw [show i+(j - i - 1)+1=j by omega,List.getD_eq_getElem?_getD,List.getElem?_eq_getElem hi1,List.getD_eq_getElem?_getD,List.getElem?_eq_getElem hj] at this
   exact this
  have hs:=qJH l [] List.Pairwise.nil
  refine qLo hs.1 hinc fun y=>?_
  rw [qOg] at *
  rw [hs.2]
  simp
def qWM (t:List UInt8):Prop:=qAp t=true∨t=qGq∨t=tLP∨t=qBt
structure CB (ws:List Wd) (c:Cd):Prop where
 neg:∀ F q,4 * (ws.length - q)+2≤F→AtW ws q (qAV 3 c)→qG5 ws F q=.inr (c,q+(qAV 3 c).length)
 conj:∀ F q,4 * (ws.length - q)+3≤F→AtW ws q (qAV 2 c)→∃ f,4 * (ws.length - (q+(qAV 2 c).length))+1≤f∧qCo ws F q=qK8 ws f c (q+(qAV 2 c).length)
 cond:∀ F q,4 * (ws.length - q)+4≤F→AtW ws q (qAV 1 c)→¬ txt ws (q+(qAV 1 c).length)=qDY→∃ f,4 * (ws.length - (q+(qAV 1 c).length))+1≤f∧qC6 ws F q=orR ws f c (q+(qAV 1 c).length)
 head:∃ t r,qAj c=t::r∧qWM t
section
variable {ws:List Wd} (hg:GoodW ws)
end
end Go.Proofs.YtohfoaplnjcihaaGreatDoor
namespace Go.Proofs.YtohfoaplnjcihaaGreatDoor
open Go Y
set_option maxRecDepth 100000
set_option maxHeartbeats 4000000
theorem qKe {f:Nat→Cd→Option Nat}:∀ {ar:List Cd} {l k:Nat},ar.foldlM f l=some k→∀ c∈ar,∃ a b,f a c=some b
 | [],_,_,_,c,hc=>by simp at hc
 | x::ar,l,k,h,c,hc=>by
  rw [List.foldlM_cons] at h
  cases hx:f l x with
  | none=>rw [hx] at h;cases h
  | some m=>
   rw [hx] at h
   rcases List.mem_cons.1 hc with rfl | hc
   ·exact⟨l,m,hx⟩
   ·exact qKe (ar:=ar) h c hc
theorem qIS {n rel val:Int} {r:Rf} {st:List Int} (h:qA0 n rel val r st=true):n=0∧rel=0∧val=0∧r=rf0∧st=[]:=by
 simp only [qA0,Bool.and_eq_true,decide_eq_true_eq] at h
 exact⟨h.1.1.1.1,h.1.1.1.2,h.1.1.2,h.1.2,h.2⟩
theorem qWQ {α:Type} {l:List α} (h:l.length=2):∃ a b,l=[a,b]:=by
 rcases l with _ | ⟨a,_ | ⟨b,_ | ⟨c,l⟩⟩⟩
 ·cases h
 ·cases h
 ·exact⟨a,b,rfl⟩
 ·simp only [List.length_cons] at h;omega
theorem qXT {α:Type} {l:List α} (h:l.length=1):∃ a,l=[a]:=by
 rcases l with _ | ⟨a,_ | ⟨b,l⟩⟩
 ·cases h
 ·exact⟨a,rfl⟩
 ·simp only [List.length_cons] at h;omega
inductive Sh (P:Cd→Prop):Cd→Prop
 | leaf (op n rel val:Int) (r:Rf) (st:List Int) (h7:¬ op=7) (h8:¬ op=8) (h9:¬ op=9) (h:qAS op n rel val r st=true):Sh P (.mk op n rel val r st [])
 | neg (a:Cd) (h:P a):Sh P (.mk 7 0 0 0 rf0 [] [a])
 | conj (a b:Cd) (ha:P a) (hb:P b):Sh P (.mk 8 0 0 0 rf0 [] [a,b])
 | disj (a b:Cd) (ha:P a) (hb:P b):Sh P (.mk 9 0 0 0 rf0 [] [a,b])
theorem qIw {d:Nat} {c:Cd} {left k:Nat} (h:qAn (d+1) c left=some k):Sh (fun a=>∃ l k,qAn d a l=some k) c:=by
 obtain⟨op,n,rel,val,r,st,ar⟩:=c
 rw [qAn] at h
 split at h
 ·cases h
 ·split at h
  ·rename_i hh
   have hm:=qKe h
   unfold qAa at hh
   split at hh
   ·rename_i h0
    simp only [Bool.and_eq_true,decide_eq_true_eq] at hh
    have:ar=[]:=List.length_eq_zero_iff.1 hh.2
    subst this
    unfold qAb at h0
    refine .leaf op n rel val r st ?_ ?_ ?_ hh.1
    ·rintro rfl;cases h0
    ·rintro rfl;cases h0
    ·rintro rfl;cases h0
   ·rename_i h0
    simp only [Bool.and_eq_true,decide_eq_true_eq] at hh
    obtain⟨hk,hp⟩:=hh
    obtain⟨rfl,rfl,rfl,rfl,rfl⟩:=qIS hp
    unfold qAb at h0 hk
    by_cases c7:op=7
    ·subst c7
     obtain⟨a,rfl⟩:=qXT hk
     exact .neg a (hm a (by simp))
    ·rw [if_neg c7] at h0 hk
     by_cases c8:op=8
     ·subst c8
      obtain⟨a,b,rfl⟩:=qWQ hk
      exact .conj a b (hm a (by simp)) (hm b (by simp))
     ·by_cases c9:op=9
      ·subst c9
       obtain⟨a,b,rfl⟩:=qWQ hk
       exact .disj a b (hm a (by simp)) (hm b (by simp))
      ·rw [if_neg (by omega)] at h0
       exact absurd rfl h0
  ·cases h
theorem Sh.mono {P Q:Cd→Prop} {c:Cd} (h:Sh P c) (hpq:∀ a,P a→Q a):Sh Q c:=by
 cases h with
 | leaf op n rel val r st h7 h8 h9 h=>exact .leaf op n rel val r st h7 h8 h9 h
 | neg a h=>exact .neg a (hpq a h)
 | conj a b ha hb=>exact .conj a b (hpq a ha) (hpq b hb)
 | disj a b ha hb=>exact .disj a b (hpq a ha) (hpq b hb)
theorem qBz {op n rel val:Int} {r:Rf} {st:List Int} (h7:¬ op=7) (h8:¬ op=8) (h9:¬ op=9):qAj (.mk op n rel val r st [])=qCC op n rel val r st:=by
 rw [qAj,qT5,if_neg h9,if_neg h8,if_neg h7]
theorem qC5 (a:Cd):qAj (.mk 7 0 0 0 rf0 [] [a])=qGq::qAV 3 a:=by
 rw [qAj,qEz,qEz];rfl
theorem qCY (a b:Cd):qAj (.mk 8 0 0 0 rf0 [] [a,b])=qAV 2 a++qDY::qAV 3 b:=by
 rw [qAj,qEz,qEz,qEz];rfl
theorem qCX (a b:Cd):qAj (.mk 9 0 0 0 rf0 [] [a,b])=qAV 1 a++tOr::qAV 2 b:=by
 rw [qAj,qEz,qEz,qEz];rfl
theorem qR1 {op:Int} (h7:¬ op=7) (h8:¬ op=8) (h9:¬ op=9):lvl op=4:=by rw [lvl,if_neg h9,if_neg h8,if_neg h7]
theorem qCx {k:Nat} {c:Cd} (h:¬ lvl c.op<k):qAV k c=qAj c:=if_neg h
section
variable {ws:List Wd} (hg:GoodW ws)
include hg
end
end Go.Proofs.YtohfoaplnjcihaaGreatDoor
namespace Go.Proofs.YtohfoaplnjcihaaGreatDoor
open Go Y
set_option maxRecDepth 100000
set_option maxHeartbeats 4000000
theorem qGG {l:List Int} (h:qCU l=true):l ≠ []∧l.length≤8∧∀ n∈l,qFy n=true:=by
 simp only [qCU,Bool.and_eq_true,decide_eq_true_eq,List.all_eq_true] at h
 exact⟨fun e=>by rw [e] at h;exact absurd h.1.1 (by decide),h.1.2,h.2⟩
section
variable {ws:List Wd} (hg:GoodW ws)
include hg
end
end Go.Proofs.YtohfoaplnjcihaaGreatDoor
namespace Go.Proofs.YtohfoaplnjcihaaGreatDoor
open Go Y
set_option maxRecDepth 100000
set_option maxHeartbeats 4000000
structure GapOK (g:List UInt8):Prop where
 sep:∃ c r,g=c::r∧qVp c
 skip:∀ r,qWd r=true→qWJ g r
def qH0 (t:List UInt8):Prop:=∃ k,qAz k t=true
theorem qQj (d:De):declT d ≠ []:=by rw [declT];simp
theorem qNU:∀ ds:List De,(ds.flatMap declT).length=qJ2 ds
 | []=>rfl
 | d::ds=>by rw [List.flatMap_cons,List.length_append,qNU ds];rfl
def qFK (x:qBT):Prop:=∀ t∈x,qH0 t
theorem qA7:qFK []:=fun t h=>by simp at h
theorem qAH {t:List UInt8} {x:qBT} (h:qH0 t) (hx:qFK x):qFK (t::x):=fun u hu=>by
 rcases List.mem_cons.1 hu with rfl | hu
 ·exact h
 ·exact hx u hu
theorem qBC {x y:qBT} (hx:qFK x) (hy:qFK y):qFK (x++y):=fun u hu=>by
 rcases List.mem_append.1 hu with hu | hu
 ·exact hx u hu
 ·exact hy u hu
theorem qDB {t:List UInt8} (h:qAp t=true):qH0 t:=⟨1,h⟩
theorem qDP {n:Int} (h:qBh n=true):qH0 (qAZ n):=⟨3,(qJo h).1⟩
theorem qAw:∀ t∈keysL++marksL,qH0 t:=by
 intro t ht
 rcases List.mem_append.1 ht with h | h
 ·exact⟨2,(by decide:∀ t∈keysL,qAz 2 t=true) t h⟩
 ·exact⟨4,(by decide:∀ t∈marksL,qAz 4 t=true) t h⟩
theorem qUC {x:qBT} (h:∀ t∈x,t∈keysL++marksL):qFK x:=fun t ht=>qAw t (h t ht)
theorem qBx {r:Rf} (h:qBk r=true):qFK (qBW r)∧(qBW r).length≤6:=by
 obtain⟨nm,m,pl,n⟩:=r
 rw [qBk,Bool.and_eq_true] at h
 obtain⟨hn,h⟩:=h
 simp only [] at h hn
 have k1:qH0 tLB:=qAw _ (by decide)
 have k2:qH0 tRB:=qAw _ (by decide)
 have k3:qH0 qGz:=qAw _ (by decide)
 have k4:qH0 qEA:=qAw _ (by decide)
 suffices hs:qFK (qEn ⟨nm,m,pl,n⟩)∧(qEn ⟨nm,m,pl,n⟩).length≤5 by
  exact⟨qAH (qDB hn) hs.1,by show _+1≤6;omega⟩
 unfold qEn
 simp only []
 split
 ·exact⟨qAH k1 (qAH k3 (qAH k2 qA7)),by simp⟩
 ·rename_i h3
  split
  ·rename_i h2
   rw [if_neg (by omega),if_neg (by omega),if_pos h2,Bool.and_eq_true] at h
   exact⟨qAH k1 (qAH (qDP h.2) (qAH k2 qA7)),by simp⟩
  ·split
   ·rename_i h1
    rw [if_neg (by omega),if_pos h1,Bool.and_eq_true] at h
    split
    ·exact⟨qAH k1 (qAH (qDB h.1) (qAH k4 (qAH (qDP h.2) (qAH k2 qA7)))),by simp⟩
    ·exact⟨qAH k1 (qAH (qDB h.1) (qAH k2 qA7)),by simp⟩
   ·exact⟨qA7,by simp⟩
theorem qHp {α:Type} {f:α→qBT} {b:Nat}:∀ {l:List α},(∀ a∈l,qFK (f a)∧(f a).length≤b)→qFK (l.flatMap f)∧(l.flatMap f).length≤b * l.length
 | [],_=>⟨qA7,by simp⟩
 | a::l,h=>by
  have h1:=h a (List.mem_cons_self ..)
  have h2:=qHp (f:=f) (b:=b) (l:=l) fun x hx=>h x (List.mem_cons_of_mem _ hx)
  rw [List.flatMap_cons]
  refine⟨qBC h1.1 h2.1,?_⟩
  rw [List.length_append,List.length_cons,Nat.mul_succ]
  omega
theorem qFY {α:Type} {f:α→qBT} {b:Nat} {l:List α} (h:∀ a∈l,qFK (f a)∧(f a).length≤b):qFK (qEv f l)∧(qEv f l).length≤(b+1) * l.length:=by
 cases l with
 | nil=>exact⟨qA7,by simp [qEv]⟩
 | cons a l=>
  have h1:=h a (List.mem_cons_self ..)
  have h2:=qHp (f:=fun x=>qAt::f x) (b:=b+1) (l:=l) fun x hx=>⟨qAH (qAw _ (by decide)) (h x (List.mem_cons_of_mem _ hx)).1,by have:=(h x (List.mem_cons_of_mem _ hx)).2;simp only [List.length_cons];omega⟩
  rw [qEv]
  refine⟨qBC h1.1 h2.1,?_⟩
  rw [List.length_append,List.length_cons,Nat.mul_succ]
  omega
theorem qPS (k:Int):qH0 (qGD k):=by
 refine qAw _ ?_
 unfold qGD
 split
 ·decide
 ·split
  ·decide
  ·split <;> decide
theorem qKX {op n rel val:Int} {r:Rf} {st:List Int} (hb:qAS op n rel val r st=true):qFK (qCC op n rel val r st)∧(qCC op n rel val r st).length≤25:=by
 unfold qAS at hb
 unfold qCC
 by_cases c6:op=6
 ·rw [if_neg (by omega),if_neg (by omega),if_pos c6] at hb
  simp only [Bool.and_eq_true,decide_eq_true_eq] at hb
  obtain⟨⟨⟨⟨⟨⟨b1,b2⟩,b3⟩,b4⟩,b5⟩,b6⟩,b7⟩:=hb
  rw [if_pos c6]
  have hr:=qBx b1
  refine⟨qBC (qUC (by decide)) (qBC hr.1 (qAH (qAw _ (by decide)) (qAH (qDP b4) (qAH (qAw _ (by decide)) (qAH (qPS rel) (qAH (qDP b3) qA7)))))),?_⟩
  simp only [List.length_append,List.length_cons,List.length_nil];omega
 ·rw [if_neg c6]
  by_cases c5:op=5
  ·rw [if_neg (by omega),if_pos c5] at hb
   simp only [Bool.and_eq_true,decide_eq_true_eq] at hb
   obtain⟨⟨⟨⟨b1,b2⟩,b3⟩,b4⟩,b5⟩:=hb
   rw [if_pos c5]
   have hr:=qBx b1
   have hset:=qDZ b5
   have hl8:st.length≤8:=by
    simp only [qG0,Bool.and_eq_true,decide_eq_true_eq] at b5
    exact b5.1.2
   have hs:=qFY (f:=fun n=>[qAZ n]) (b:=1) (l:=st) fun a ha=>⟨qAH (qDP (hset.2.1 a ha)) qA7,by simp⟩
   refine⟨qBC hr.1 (qBC (qUC (by decide)) (qBC hs.1 (qUC (by decide)))),?_⟩
   simp only [List.length_append,List.length_cons,List.length_nil];omega
  ·rw [if_neg c5]
   by_cases c1:op=1∨op=2∨op=3∨op=4
   ·rw [if_pos c1] at hb
    simp only [Bool.and_eq_true,decide_eq_true_eq] at hb
    have hr:=qBx hb.1.1.1.1
    refine⟨qBC hr.1 (qAH (qPS op) (qAH (qDP hb.1.1.1.2) qA7)),?_⟩
    simp only [List.length_append,List.length_cons,List.length_nil];omega
   ·rw [if_neg c1,if_neg c5,if_neg c6] at hb
    cases hb
inductive ShN (P:Nat→Cd→Nat→Prop):Nat→Cd→Nat→Prop
 | leaf (op n rel val:Int) (r:Rf) (st:List Int) (l:Nat) (h7:¬ op=7) (h8:¬ op=8) (h9:¬ op=9) (h:qAS op n rel val r st=true):ShN P (l+1) (.mk op n rel val r st []) l
 | neg (a:Cd) (l k:Nat) (h:P l a k):ShN P (l+1) (.mk 7 0 0 0 rf0 [] [a]) k
 | conj (a b:Cd) (l m k:Nat) (ha:P l a m) (hb:P m b k):ShN P (l+1) (.mk 8 0 0 0 rf0 [] [a,b]) k
 | disj (a b:Cd) (l m k:Nat) (ha:P l a m) (hb:P m b k):ShN P (l+1) (.mk 9 0 0 0 rf0 [] [a,b]) k
theorem qHv {d:Nat} {c:Cd} {left k:Nat} (h:qAn (d+1) c left=some k):ShN (fun l a k=>qAn d a l=some k) left c k:=by
 obtain⟨op,n,rel,val,r,st,ar⟩:=c
 rw [qAn] at h
 split at h
 ·cases h
 ·rename_i hl0
  obtain⟨l,rfl⟩:∃ l,left=l+1:=⟨left - 1,by omega⟩
  rw [Nat.add_sub_cancel] at h
  split at h
  ·rename_i hh
   unfold qAa at hh
   split at hh
   ·rename_i h0
    simp only [Bool.and_eq_true,decide_eq_true_eq] at hh
    have:ar=[]:=List.length_eq_zero_iff.1 hh.2
    subst this
    unfold qAb at h0
    injection h with h
    have h:l=k:=h
    subst h
    refine .leaf op n rel val r st l ?_ ?_ ?_ hh.1
    ·rintro rfl;cases h0
    ·rintro rfl;cases h0
    ·rintro rfl;cases h0
   ·rename_i h0
    simp only [Bool.and_eq_true,decide_eq_true_eq] at hh
    obtain⟨hk,hp⟩:=hh
    obtain⟨rfl,rfl,rfl,rfl,rfl⟩:=qIS hp
    have two:∀ {a b:Cd},[a,b].foldlM (fun l c=>qAn d c l) l=some k→∃ m,qAn d a l=some m∧qAn d b m=some k:=fun {a b} h=>by
     rw [List.foldlM_cons] at h
     cases h1:qAn d a l with
     | none=>rw [h1] at h;cases h
     | some m=>
      rw [h1] at h
      have h:[b].foldlM (fun l c=>qAn d c l) m=some k:=h
      rw [List.foldlM_cons] at h
      cases h2:qAn d b m with
      | none=>rw [h2] at h;cases h
      | some m2=>
       rw [h2] at h
       exact⟨m,rfl,by rw [h2];exact h⟩
    unfold qAb at h0 hk
    by_cases c7:op=7
    ·subst c7
     obtain⟨a,rfl⟩:=qXT hk
     rw [List.foldlM_cons] at h
     cases h1:qAn d a l with
     | none=>rw [h1] at h;cases h
     | some m=>
      rw [h1] at h
      exact .neg a l k (by rw [h1];exact h)
    ·rw [if_neg c7] at h0 hk
     by_cases c8:op=8
     ·subst c8
      obtain⟨a,b,rfl⟩:=qWQ hk
      obtain⟨m,h1,h2⟩:=two h
      exact .conj a b l m k h1 h2
     ·by_cases c9:op=9
      ·subst c9
       obtain⟨a,b,rfl⟩:=qWQ hk
       obtain⟨m,h1,h2⟩:=two h
       exact .disj a b l m k h1 h2
      ·rw [if_neg (by omega)] at h0
       exact absurd rfl h0
  ·cases h
theorem qAv {k:Nat} {c:Cd} (h:qFK (qAj c)):qFK (qAV k c)∧(qAV k c).length≤(qAj c).length+2:=by
 by_cases hl:lvl c.op<k
 ·rw [qAV,inT,if_pos hl]
  exact⟨qAH (qAw _ (by decide)) (qBC h (qUC (by decide))),by simp⟩
 ·rw [qCx hl]
  exact⟨h,by omega⟩
theorem qBa:∀ (d:Nat) (c:Cd) (left k:Nat),qAn d c left=some k→qFK (qAj c)∧(qAj c).length+2+28 * k≤28 * left
 | 0,_,_,_,h=>by cases h
 | d+1,c,left,k,h=>by
  cases qHv h with
  | leaf op n rel val r st l h7 h8 h9 hb=>
   rw [qBz h7 h8 h9]
   have:=qKX hb
   exact⟨this.1,by omega⟩
  | neg a l k ha=>
   have ia:=qBa d a l k ha
   have wa:=qAv (k:=3) ia.1
   rw [qC5]
   exact⟨qAH (qAw _ (by decide)) wa.1,by simp only [List.length_cons];omega⟩
  | conj a b l m k ha hb=>
   have ia:=qBa d a l m ha
   have ib:=qBa d b m k hb
   have wa:=qAv (k:=2) ia.1
   have wb:=qAv (k:=3) ib.1
   rw [qCY]
   exact⟨qBC wa.1 (qAH (qAw _ (by decide)) wb.1),by simp only [List.length_append,List.length_cons];omega⟩
  | disj a b l m k ha hb=>
   have ia:=qBa d a l m ha
   have ib:=qBa d b m k hb
   have wa:=qAv (k:=1) ia.1
   have wb:=qAv (k:=2) ib.1
   rw [qCX]
   exact⟨qBC wa.1 (qAH (qAw _ (by decide)) wb.1),by simp only [List.length_append,List.length_cons];omega⟩
theorem qFm {n:Int} (h:qFy n=true):qFK (qGM n)∧(qGM n).length≤2:=by
 simp only [qFy,Bool.and_eq_true,decide_eq_true_eq] at h
 unfold qGM
 split
 ·exact⟨qAH (qAw _ (by decide)) (qAH (qDP (by simp only [qBh,Bool.and_eq_true,decide_eq_true_eq];omega)) qA7),by simp⟩
 ·exact⟨qAH (qDP (by simp only [qBh,Bool.and_eq_true,decide_eq_true_eq];omega)) qA7,by simp⟩
theorem qKM {l:List Int} (h:qCU l=true):qFK (qB5 l)∧(qB5 l).length≤16:=by
 obtain⟨h1,h2,h3⟩:=qGG h
 have:=qHp (f:=qGM) (b:=2) (l:=l) fun a ha=>qFm (h3 a ha)
 exact⟨this.1,by have h4:=this.2;unfold qB5;omega⟩
theorem qIx:∀ {l:List Cs},qB2 l=true→qFK (qBb l)∧(qBb l).length≤858 * l.length
 | [],_=>⟨qA7,by simp [qBb]⟩
 | [c],h=>by
  simp only [qB2,Bool.and_eq_true] at h
  have hn:=qKM h.1
  rw [qBb]
  exact⟨qAH (qAw _ (by decide)) (qAH (qAw _ (by decide)) hn.1),by simp only [List.length_cons,List.length_nil];omega⟩
 | c::d::r,h=>by
  simp only [qB2,Bool.and_eq_true] at h
  obtain⟨⟨hn,hc⟩,hr⟩:=h
  have hn:=qKM hn
  obtain⟨k,hk⟩:=Option.isSome_iff_exists.1 hc
  have hc:=qBa 8 c.cond 30 k hk
  have ih:=qIx (l:=d::r) hr
  rw [qBb]
  refine⟨qBC hc.1 (qAH (qAw _ (by decide)) (qBC hn.1 (qAH (qAw _ (by decide)) ih.1))),?_⟩
  have:=ih.2
  simp only [List.length_append,List.length_cons] at this ⊢
  omega
theorem qEH {l:List Cs} (h:qBP l=true):qFK (qA4 l)∧(qA4 l).length≤10300:=by
 simp only [qBP,Bool.and_eq_true,decide_eq_true_eq] at h
 obtain⟨⟨h1,h2⟩,h3⟩:=h
 have:=qIx h3
 refine⟨qAH (qAw _ (by decide)) (qBC this.1 (qUC (by decide))),?_⟩
 rw [qA4]
 simp only [List.length_append,List.length_cons,List.length_nil]
 have h4:=this.2
 omega
theorem qHN {key:List UInt8} {l:List Rf} (hk:key∈keysL++marksL) (h:∀ r∈l,qBk r=true) (hl:l.length≤8):qFK (qAd key l)∧(qAd key l).length≤60:=by
 unfold qAd
 split
 ·exact⟨qA7,by simp⟩
 ·have:=qFY (f:=qBW) (b:=6) (l:=l) fun a ha=>qBx (h a ha)
  exact⟨qAH (qAw _ hk) this.1,by have h2:=this.2;simp only [List.length_cons];omega⟩
theorem qES {d:De} (hv:qBj d=true):qFK (declT d)∧(declT d).length≤10400:=by
 obtain⟨k,n,nm,pl,rs,cs⟩:=d
 simp only [qBj,Bool.and_eq_true,decide_eq_true_eq,List.all_eq_true] at hv
 obtain⟨⟨⟨v1,v2⟩,v3⟩,v4⟩:=hv
 suffices hs:qFK (qLp ⟨k,n,nm,pl,rs,cs⟩)∧(qLp ⟨k,n,nm,pl,rs,cs⟩).length≤10399 by
  exact⟨qBC hs.1 (qUC (by decide)),by rw [declT,List.length_append];simp only [List.length_cons,List.length_nil];omega⟩
 unfold qAx at v4
 unfold qLp
 simp only [] at v4 ⊢
 have hd:=qDP v1
 by_cases c1:k=1
 ·rw [if_pos c1]
  exact⟨qAH (qAw _ (by decide)) (qAH hd qA7),by simp⟩
 rw [if_neg c1] at v4 ⊢
 by_cases c2:k=2
 ·rw [if_pos c2] at v4 ⊢
  simp only [Bool.and_eq_true,decide_eq_true_eq] at v4
  exact⟨qAH (qAw _ (by decide)) (qAH (qDB v4.1.1.1) (qAH (qAw _ (by decide)) (qAH hd qA7))),by simp⟩
 rw [if_neg c2] at v4 ⊢
 by_cases c3:k=3
 ·rw [if_pos c3] at v4 ⊢
  simp only [Bool.and_eq_true,Bool.or_eq_true,decide_eq_true_eq] at v4
  obtain⟨⟨v0,v5⟩,v6⟩:=v4
  have hr:=qHN (key:=qAg) (by decide) v3 v2
  have hc:=qEH v6
  have hp:qFK (if pl=[] then [] else [tLB,pl,tRB])∧(if pl=[] then [] else [tLB,pl,tRB]:qBT).length≤3:=by
   split
   ·exact⟨qA7,by simp⟩
   ·rename_i h
    exact⟨qAH (qAw _ (by decide)) (qAH (qDB (v5.resolve_left h)) (qUC (by decide))),by simp⟩
  refine⟨qBC (qAH (qAw _ (by decide)) (qAH (qDB v0) qA7)) (qBC hp.1 (qBC (qAH (qAw _ (by decide)) (qAH hd qA7)) (qBC hr.1 (qAH (qAw _ (by decide)) hc.1)))),?_⟩
  have h1:=hp.2
  have h2:=hr.2
  have h3:=hc.2
  simp only [List.length_append,List.length_cons,List.length_nil] at h1 ⊢
  omega
 rw [if_neg c3] at v4 ⊢
 by_cases c4:k=4
 ·rw [if_pos c4] at v4 ⊢
  simp only [Bool.and_eq_true,decide_eq_true_eq] at v4
  have hr:=qHN (key:=qBn) (by decide) v3 v2
  refine⟨qBC (qAH (qAw _ (by decide)) (qAH (qDB v4.1.1) (qAH (qAw _ (by decide)) (qAH hd qA7)))) hr.1,?_⟩
  have h2:=hr.2
  simp only [List.length_append,List.length_cons,List.length_nil];omega
 rw [if_neg c4] at v4 ⊢
 by_cases c5:k=5
 ·rw [if_pos c5] at v4 ⊢
  simp only [Bool.and_eq_true,decide_eq_true_eq] at v4
  have hr:=qHN (key:=qAg) (by decide) v3 v2
  have hc:=qEH v4.2
  refine⟨qAH (qAw _ (by decide)) (qBC hr.1 (qAH (qAw _ (by decide)) hc.1)),?_⟩
  have h2:=hr.2
  have h3:=hc.2
  simp only [List.length_append,List.length_cons];omega
 ·rw [if_neg c5]
  exact⟨qA7,by simp⟩
theorem qJB {t:List UInt8} (h:qH0 t):1≤t.length∧t.length≤10:=by
 obtain⟨k,h⟩:=h
 exact qHM h
theorem qBe:∀ {x:qBT} (b:Bool),qFK x→(spW b x).length≤11 * x.length
 | [],_,_=>by simp [spW]
 | t::x,b,h=>by
  have h1:=qJB (h t (List.mem_cons_self ..))
  have h2:=qBe (x:=x) true fun u hu=>h u (List.mem_cons_of_mem _ hu)
  have h3:(if b=true then [32] else []:List UInt8).length≤1:=by cases b <;> simp
  rw [spW,List.length_append,List.length_append,List.length_cons]
  omega
theorem qF2 {ds:List De} (h:qBg ds=true):ds.length≤30∧∀ d∈ds,qBj d=true:=by
 simp only [qBg,Bool.and_eq_true,decide_eq_true_eq,List.all_eq_true] at h
 exact h
theorem qSl (k:Int):Pure cx 185 [i64 k] (·=.ret [.str (qGD k)]):=by
 refine qAB Tryz.func185 rfl rfl rfl ?_
 (first | refine qAP (fun h1=>?_) (fun h1=>?_) | refine qAQ (fun h1=>?_) (fun h1=>?_) | refine qAR (fun h1=>?_) (fun h1=>?_))
 ·have h1:k=1:=h1
  exact qAF _ rfl rfl (by rw [qGD,if_pos h1])
 have h1:¬ k=1:=h1
 (first | refine qAP (fun h2=>?_) (fun h2=>?_) | refine qAQ (fun h2=>?_) (fun h2=>?_) | refine qAR (fun h2=>?_) (fun h2=>?_))
 ·have h2:k=2:=h2
  exact qAF _ rfl rfl (by rw [qGD,if_neg h1,if_pos h2])
 have h2:¬ k=2:=h2
 (first | refine qAP (fun h3=>?_) (fun h3=>?_) | refine qAQ (fun h3=>?_) (fun h3=>?_) | refine qAR (fun h3=>?_) (fun h3=>?_))
 ·have h3:k=3:=h3
  exact qAF _ rfl rfl (by rw [qGD,if_neg h1,if_neg h2,if_pos h3])
 have h3:¬ k=3:=h3
 exact qAF _ rfl rfl (by rw [qGD,if_neg h1,if_neg h2,if_neg h3])
theorem qQH {op n rel val:Int} {r:Rf} {st:List Int} (hb:qAS op n rel val r st=true):qBk r=true∧(op=6→qBh n=true∧qBh val=true)∧(op=5→qG0 st=true)∧(¬ op=5→¬ op=6→qBh n=true):=by
 unfold qAS at hb
 by_cases c6:op=6
 ·rw [if_neg (by omega),if_neg (by omega),if_pos c6] at hb
  simp only [Bool.and_eq_true,decide_eq_true_eq] at hb
  obtain⟨⟨⟨⟨⟨⟨b1,b2⟩,b3⟩,b4⟩,b5⟩,b6⟩,b7⟩:=hb
  exact⟨b1,fun _=>⟨b3,b4⟩,fun h=>by omega,fun _ h=>absurd c6 h⟩
 ·by_cases c5:op=5
  ·rw [if_neg (by omega),if_pos c5] at hb
   simp only [Bool.and_eq_true,decide_eq_true_eq] at hb
   obtain⟨⟨⟨⟨b1,b2⟩,b3⟩,b4⟩,b5⟩:=hb
   exact⟨b1,fun h=>absurd h c6,fun _=>b5,fun h=>absurd c5 h⟩
  ·by_cases c1:op=1∨op=2∨op=3∨op=4
   ·rw [if_pos c1] at hb
    simp only [Bool.and_eq_true,decide_eq_true_eq] at hb
    exact⟨hb.1.1.1.1,fun h=>absurd h c6,fun h=>absurd h c5,fun _ _=>hb.1.1.1.2⟩
   ·rw [if_neg c1,if_neg c5,if_neg c6] at hb
    cases hb
abbrev qPC (r:Rf) (l:List Int):qBT:=(qBW r++[tIn,tLC])++qEv (fun n=>[qAZ n]) l
theorem qVB (st:Wst) (op n rel val:Int) (r:Rf) (s:List Int) (hv:qAS op n rel val r s=true) (hb0:st.sz+wt (qCC op n rel val r s)≤100000000):HoldsG cx 158 [.ptr 0 0 0, .p (Cd.mk op n rel val r s []).pv] (wH true st) (WQ (puts st (qCC op n rel val r s))):=by
 obtain⟨f1,f2,f3,f4⟩:=qQH hv
 by_cases h6:op=6
 ·subst h6
  obtain⟨g1,g2⟩:=f2 rfl
  have e:qCC 6 n rel val r s=(([]++[qBt,tLP])++qBW r)++[tEq,qAZ val,tRP,qGD rel,qAZ n]:=by
   rw [qCC,if_pos rfl];simp
  rw [e] at hb0 ⊢
  have hb:=hb0
  refine qAA Tryz.func158 rfl rfl rfl ?_
  refine And.intro (fun _=>?_) (fun h=>absurd rfl h)
  refine(qA2 true (puts st ([])) ([qBt,tLP]) (by simp) (by have hz:=qAI ([]) st;simp only [qAL,wt] at hb hz ⊢;omega)).holds.useT [] [(2,3)] rfl (sk) (sk) fun e0 H0 hq=>?_
  rw [← qAE] at hq
  obtain⟨rfl,rfl⟩:=hq
  refine⟨rfl,_,⟨5,((4,bO (puts st ([]++[qBt,tLP])).s)::(0,wO 4 (puts st ([]++[qBt,tLP])))::[(2,cO ((Cd.mk 6 n rel val r s []).cells.map .p))])⟩,rfl,rfl,?_⟩
  refine(qPV (puts st ([]++[qBt,tLP])) r f1 (by have hz:=qAI ([]++[qBt,tLP]) st;simp only [qAL,wt] at hb hz ⊢;omega)).holds.useT [] [(1,4)] rfl (sk) (sk) fun e0 H0 hq=>?_
  unfold WQ at hq
  rw [← qAE] at hq
  obtain⟨rfl,rfl⟩:=hq
  refine⟨rfl,_,⟨6,((5,bO (puts st (([]++[qBt,tLP])++qBW r)).s)::(0,wO 5 (puts st (([]++[qBt,tLP])++qBW r)))::[(2,cO ((Cd.mk 6 n rel val r s []).cells.map .p))])⟩,rfl,rfl,?_⟩
  refine VDraw.seq rfl ?_
  refine(qCe val g2).eq rfl ?_
  refine⟨sk,?_⟩
  refine(qSl rel).eq rfl ?_
  refine⟨sk,?_⟩
  refine(qCe n g1).eq rfl ?_
  refine(qA2 true (puts st (([]++[qBt,tLP])++qBW r)) ([tEq,qAZ val,tRP,qGD rel,qAZ n]) (by simp) (by have hz:=qAI (([]++[qBt,tLP])++qBW r) st;simp only [qAL,wt] at hb hz ⊢;omega)).holds.useT [] [(1,5),(2,6)] rfl (sk) (sk) fun e0 H0 hq=>?_
  rw [← qAE] at hq
  obtain⟨rfl,rfl⟩:=hq
  refine⟨rfl,_,⟨8,((7,bO (puts st (([]++[qBt,tLP])++qBW r++[tEq,qAZ val,tRP,qGD rel,qAZ n])).s)::(0,wO 7 (puts st (([]++[qBt,tLP])++qBW r++[tEq,qAZ val,tRP,qGD rel,qAZ n])))::[(2,cO ((Cd.mk 6 n rel val r s []).cells.map .p))])⟩,rfl,rfl,?_⟩
  exact⟨[],[(2,7)],[], .returned und,_,rfl,sk,sk,rfl,rfl⟩
 by_cases h5:op=5
 ·subst h5
  obtain⟨s1,s2,s3⟩:=qDZ (f3 rfl)
  have s8:s.length≤8:=by
   have:=f3 rfl
   simp only [qG0,Bool.and_eq_true,decide_eq_true_eq] at this
   exact this.1.2
  have hm:(s.map i64).length=s.length:=List.length_map ..
  have e:qCC 5 n rel val r s=qPC r s++[tRC]:=by
   rw [qCC,if_neg (by decide),if_pos rfl];simp [qPC]
  rw [e] at hb0 ⊢
  refine qAA Tryz.func158 rfl rfl rfl ?_
  refine And.intro (fun h=>absurd (show(5:Int)=6 from h) (by decide)) (fun _=>?_)
  refine And.intro (fun _=>?_) (fun h=>absurd rfl h)
  have hb:st.sz+wt (([]++qBW r)++[tIn,tLC])≤100000000:=by simp only [qPC,qAL,wt] at hb0 ⊢;omega
  refine(qPV (puts st []) r f1 (by show st.sz+_≤_;simp only [qAL,wt] at hb ⊢;omega)).holds.useT [] [] rfl (sk) (sk) fun e0 H0 hq=>?_
  unfold WQ at hq
  rw [← qAE] at hq
  obtain⟨rfl,rfl⟩:=hq
  refine⟨rfl,_,⟨4,((3,bO (puts st ([]++qBW r)).s)::(0,wO 3 (puts st ([]++qBW r)))::[(2,cO ((Cd.mk 5 n rel val r s []).cells.map .p))])⟩,rfl,rfl,?_⟩
  refine(qA2 true (puts st ([]++qBW r)) ([tIn,tLC]) (by simp) (by have hz:=qAI ([]++qBW r) st;simp only [qAL,wt] at hb hz ⊢;omega)).holds.useT [] [(1,3),(2,4)] rfl (sk) (sk) fun e0 H0 hq=>?_
  rw [← qAE] at hq
  obtain⟨rfl,rfl⟩:=hq
  refine⟨rfl,_,⟨6,((5,bO (puts st ([]++qBW r++[tIn,tLC])).s)::(0,wO 5 (puts st ([]++qBW r++[tIn,tLC])))::[(2,cO ((Cd.mk 5 n rel val r s []).cells.map .p))])⟩,rfl,rfl,?_⟩
  refine⟨qBT × Nat,fun x=>[(0, .ptr 0 0 0),(55, .p (ints s)),(56, .p (i64 (s.map i64).length)),(57, .p (i64 x.2))],fun x=>wH' (puts st x.1),fun x=>x.2≤s.length∧x.1=qPC r (s.take x.2),fun x=>s.length - x.2,?_,?_⟩
  ·exact⟨(([]++qBW r)++[tIn,tLC],0),⟨Nat.zero_le _,by simp [qPC,qEv]⟩,qAC [] [(2,5)] [] rfl (sk) (sk) rfl⟩
  clear hb
  rintro⟨P,k⟩ ⟨k1,k2⟩
  simp only [] at k1 k2
  (first | refine qAP (fun m1=>?_) (fun m1=>?_) | refine qAQ (fun m1=>?_) (fun m1=>?_) | refine qAR (fun m1=>?_) (fun m1=>?_))
  rotate_left
  ·have m1:¬ (k:Int)<((s.map i64).length:Nat):=m1
   rw [hm] at m1
   have e:s.take k=s:=qBY (by omega)
   rw [e] at k2
   rw [← k2] at hb0
   have hb:=hb0
   refine(qA2 true (puts st (P)) ([tRC]) (by simp) (by have hz:=qAI (P) st;simp only [qAL,wt] at hb hz ⊢;omega)).holds.useT [] [(1,2),(2,3)] rfl (sk) (sk) fun e0 H0 hq=>?_
   rw [← qAE] at hq
   obtain⟨rfl,rfl⟩:=hq
   refine⟨rfl,_,⟨5,((4,bO (puts st (P++[tRC])).s)::(0,wO 4 (puts st (P++[tRC])))::[])⟩,rfl,rfl,?_⟩
   exact⟨[],[(2,4)],[], .returned und,wH' (puts st (P++[tRC])),rfl,sk,sk,rfl,by rw [k2]⟩
  have m1:(k:Int)<((s.map i64).length:Nat):=m1
  rw [hm] at m1
  have hk:k<s.length:=by omega
  have hn:=s2 _ (qAK 0 hk)
  have hw:=qSg (f:=fun n=>[qAZ n]) s (k+1)
  have hcell:=qED hk
  have et:qPC r (s.take (k+1))=qPC r (s.take k)++((if k=0 then [] else [qAt])++[qAZ (s.getD k 0)]):=by
   rw [qPC,qMd 0 hk];simp [qPC]
  have hb:st.sz+wt (qPC r (s.take (k+1)))≤100000000:=by
   simp only [qPC,qAL,wt] at hb0 hw ⊢;omega
  rw [et] at hb
  rw [← k2] at et hb
  clear k2
  generalize s.getD k 0=x at hn hcell et hb
  refine⟨_,⟨by omega,i64 x,hcell,rfl⟩,?_⟩
  by_cases c:k=0
  ·rw [if_pos c] at et hb
   refine And.intro (fun h=>absurd (show(0:Int)<(k:Nat) from h) (by omega)) (fun _=>?_)
   refine(qCe x hn).eq rfl ?_
   have hb:st.sz+wt (P++[qAZ x])≤100000000:=hb
   refine(qA2 true (puts st (P)) ([qAZ x]) (by simp) (by have hz:=qAI (P) st;simp only [qAL,wt] at hb hz ⊢;omega)).holds.useT [] [(1,2),(2,3)] rfl (sk) (sk) fun e0 H0 hq=>?_
   rw [← qAE] at hq
   obtain⟨rfl,rfl⟩:=hq
   refine⟨rfl,_,⟨5,((4,bO (puts st (P++[qAZ x])).s)::(0,wO 4 (puts st (P++[qAZ x])))::[])⟩,rfl,rfl,?_⟩
   refine⟨_,w6z,?_⟩
   exact⟨(P++[qAZ x],k+1),⟨hk,et.symm⟩,qAC [] [(2,4)] [] rfl (sk) (sk) rfl,by show s.length - (k+1)<s.length - k;omega⟩
  ·rw [if_neg c] at et hb
   rw [← List.append_assoc] at et hb
   refine And.intro (fun _=>?_) (fun h=>absurd (show(0:Int)<(k:Nat) by omega) h)
   refine(qA2 true (puts st (P)) ([qAt]) (by simp) (by have hz:=qAI (P) st;simp only [qAL,wt] at hb hz ⊢;omega)).holds.useT [] [(1,2),(2,3)] rfl (sk) (sk) fun e0 H0 hq=>?_
   rw [← qAE] at hq
   obtain⟨rfl,rfl⟩:=hq
   refine⟨rfl,_,⟨5,((4,bO (puts st (P++[qAt])).s)::(0,wO 4 (puts st (P++[qAt])))::[])⟩,rfl,rfl,?_⟩
   refine(qCe x hn).eq rfl ?_
   refine(qA2 true (puts st (P++[qAt])) ([qAZ x]) (by simp) (by have hz:=qAI (P++[qAt]) st;simp only [qAL,wt] at hb hz ⊢;omega)).holds.useT [] [(1,4),(2,5)] rfl (sk) (sk) fun e0 H0 hq=>?_
   rw [← qAE] at hq
   obtain⟨rfl,rfl⟩:=hq
   refine⟨rfl,_,⟨7,((6,bO (puts st (P++[qAt]++[qAZ x])).s)::(0,wO 6 (puts st (P++[qAt]++[qAZ x])))::[])⟩,rfl,rfl,?_⟩
   refine⟨_,w6z,?_⟩
   exact⟨((P++[qAt])++[qAZ x],k+1),⟨hk,et.symm⟩,qAC [] [(2,6)] [] rfl (sk) (sk) rfl,by show s.length - (k+1)<s.length - k;omega⟩
 ·have e:qCC op n rel val r s=([]++qBW r)++[qGD op,qAZ n]:=by
   rw [qCC,if_neg h6,if_neg h5];rfl
  have g1:=f4 h5 h6
  rw [e] at hb0 ⊢
  have hb:=hb0
  refine qAA Tryz.func158 rfl rfl rfl ?_
  refine And.intro (fun h=>absurd h h6) (fun _=>?_)
  refine And.intro (fun h=>absurd h h5) (fun _=>?_)
  refine(qPV (puts st []) r f1 (by show st.sz+_≤_;simp only [qAL,wt] at hb ⊢;omega)).holds.useT [] [] rfl (sk) (sk) fun e0 H0 hq=>?_
  unfold WQ at hq
  rw [← qAE] at hq
  obtain⟨rfl,rfl⟩:=hq
  refine⟨rfl,_,⟨4,((3,bO (puts st ([]++qBW r)).s)::(0,wO 3 (puts st ([]++qBW r)))::[(2,cO ((Cd.mk op n rel val r s []).cells.map .p))])⟩,rfl,rfl,?_⟩
  refine VDraw.seq rfl ?_
  refine(qSl op).eq rfl ?_
  refine⟨sk,?_⟩
  refine(qCe n g1).eq rfl ?_
  refine(qA2 true (puts st ([]++qBW r)) ([qGD op,qAZ n]) (by simp) (by have hz:=qAI ([]++qBW r) st;simp only [qAL,wt] at hb hz ⊢;omega)).holds.useT [] [(1,3),(2,4)] rfl (sk) (sk) fun e0 H0 hq=>?_
  rw [← qAE] at hq
  obtain⟨rfl,rfl⟩:=hq
  refine⟨rfl,_,⟨6,((5,bO (puts st ([]++qBW r++[qGD op,qAZ n])).s)::(0,wO 5 (puts st ([]++qBW r++[qGD op,qAZ n])))::[(2,cO ((Cd.mk op n rel val r s []).cells.map .p))])⟩,rfl,rfl,?_⟩
  exact⟨[],[(2,5)],[], .returned und,_,rfl,sk,sk,rfl,rfl⟩
theorem qF0 {k:Nat} {c:Cd} (h:lvl c.op<k):qAV k c=tLP::(qAj c++[tRP]):=if_pos h
def qXI (d:Nat):Prop:=∀ (c:Cd),(∃ l k,qAn d c l=some k)→∀ (st:Wst) (L:Nat),L≤2→st.sz+wt (qAV (L+1) c)≤100000000→HoldsG cx 115 [.ptr 0 0 0, .p c.pv, .p (i64 L)] (wH true st) (WQ (puts st (qAV (L+1) c)))
abbrev ccO (c:Cd):AObj:=cO (c.cells.map .p)
theorem qOX {d:Nat} (ih:qXI d):qXI (d+1):=by
 intro c ⟨l,k,hv⟩ st L hL hb
 cases qIw hv with
 | leaf op n rel val r s h7 h8 h9 hl=>
  have hX:qAV (L+1) (.mk op n rel val r s [])=[]++qCC op n rel val r s:=by
   rw [qCx (by show ¬ lvl op<L+1;rw [qR1 h7 h8 h9];omega),qBz h7 h8 h9];rfl
  rw [hX] at hb ⊢
  refine qAA Tryz.func115 rfl rfl rfl ?_
  refine And.intro (fun h=>absurd h h9) (fun _=>?_)
  refine And.intro (fun h=>absurd h h8) (fun _=>?_)
  refine And.intro (fun h=>absurd (show(2:Int)<(L:Nat) from h) (by omega)) (fun _=>?_)
  refine And.intro (fun h=>absurd h h9) (fun _=>?_)
  refine And.intro (fun h=>absurd h h8) (fun _=>?_)
  refine And.intro (fun h=>absurd h h7) (fun _=>?_)
  refine(qVB (puts st []) op n rel val r s hl hb).holds.useT [] [] rfl (sk) (sk) fun e0 H0 hq=>?_
  unfold WQ at hq
  rw [← qAE] at hq
  obtain⟨rfl,rfl⟩:=hq
  refine⟨rfl,_,⟨4,((3,bO (puts st ([]++qCC op n rel val r s)).s)::(0,wO 3 (puts st ([]++qCC op n rel val r s)))::[(2,ccO _)])⟩,rfl,rfl,?_⟩
  exact⟨[],[(2,3)],[], .returned und,wH' (puts st ([]++qCC op n rel val r s)),rfl,sk,sk,rfl,rfl⟩
 | neg a pa=>
  obtain⟨A,hA⟩:∃ A,A=qAV 3 a:=⟨_,rfl⟩
  have hX:qAV (L+1) (.mk 7 0 0 0 rf0 [] [a])=([]++[qGq])++A:=by
   rw [qCx (by show ¬ lvl 7<L+1;have:lvl 7=3:=rfl;omega),qC5,hA];rfl
  rw [hX] at hb ⊢
  have ha:=fun s h=>ih a pa s 2 (by omega) h
  have ha:∀ s:Wst,s.sz+wt A≤100000000→HoldsG cx 115 [.ptr 0 0 0, .p a.pv, .p (i64 (2:Nat))] (wH true s) (WQ (puts s A)):=fun s h=>by rw [hA] at h ⊢;exact ha s h
  clear hA hX hv pa
  obtain⟨ao,an,ar,av,af,at',aa⟩:=a
  refine qAA Tryz.func115 rfl rfl rfl ?_
  refine And.intro (fun h=>absurd (show(7:Int)=9 from h) (by decide)) (fun _=>?_)
  refine And.intro (fun h=>absurd (show(7:Int)=8 from h) (by decide)) (fun _=>?_)
  refine And.intro (fun h=>absurd (show(2:Int)<(L:Nat) from h) (by omega)) (fun _=>?_)
  refine And.intro (fun h=>absurd (show(7:Int)=9 from h) (by decide)) (fun _=>?_)
  refine And.intro (fun h=>absurd (show(7:Int)=8 from h) (by decide)) (fun _=>?_)
  refine And.intro (fun _=>?_) (fun h=>absurd rfl h)
  refine(qA2 true (puts st ([])) ([qGq]) (by simp) (by have hz:=qAI ([]) st;simp only [qAL,wt] at hb hz ⊢;omega)).holds.useT [] [(2,3)] rfl (sk) (sk) fun e0 H0 hq=>?_
  rw [← qAE] at hq
  obtain⟨rfl,rfl⟩:=hq
  refine⟨rfl,_,⟨5,((4,bO (puts st ([]++[qGq])).s)::(0,wO 4 (puts st ([]++[qGq])))::[(2,ccO _)])⟩,rfl,rfl,?_⟩
  refine⟨_,⟨by decide,_,rfl,rfl⟩,?_⟩
  refine(ha (puts st ([]++[qGq])) (by have hz:=qAI ([]++[qGq]) st;simp only [qAL,wt] at hb hz ⊢;omega)).holds.useT [] [(1,4)] rfl (sk) (sk) fun e0 H0 hq=>?_
  unfold WQ at hq
  rw [← qAE] at hq
  obtain⟨rfl,rfl⟩:=hq
  refine⟨rfl,_,⟨6,((5,bO (puts st (([]++[qGq])++A)).s)::(0,wO 5 (puts st (([]++[qGq])++A)))::[(2,ccO _)])⟩,rfl,rfl,?_⟩
  exact⟨[],[(2,5)],[], .returned und,wH' (puts st (([]++[qGq])++A)),rfl,sk,sk,rfl,rfl⟩
 | conj a b pa pb=>
  have ha:=fun s h=>ih a pa s 1 (by omega) h
  have hc:=fun s h=>ih b pb s 2 (by omega) h
  obtain⟨A,hA⟩:∃ A,A=qAV 2 a:=⟨_,rfl⟩
  obtain⟨B,hB⟩:∃ B,B=qAV 3 b:=⟨_,rfl⟩
  have ha:∀ s:Wst,s.sz+wt A≤100000000→HoldsG cx 115 [.ptr 0 0 0, .p a.pv, .p (i64 (1:Nat))] (wH true s) (WQ (puts s A)):=fun s h=>by rw [hA] at h ⊢;exact ha s h
  have hc:∀ s:Wst,s.sz+wt B≤100000000→HoldsG cx 115 [.ptr 0 0 0, .p b.pv, .p (i64 (2:Nat))] (wH true s) (WQ (puts s B)):=fun s h=>by rw [hB] at h ⊢;exact hc s h
  have hC:qAj (.mk 8 0 0 0 rf0 [] [a,b])=A++qDY::B:=by rw [qCY,hA,hB]
  by_cases hp:1<L
  ·have hX:qAV (L+1) (.mk 8 0 0 0 rf0 [] [a,b])=(((([]++[tLP])++A)++[qDY])++B)++[tRP]:=by
    rw [qF0 (show lvl 8<L+1 by have:lvl 8=2:=rfl;omega),hC];simp
   rw [hX] at hb
   clear hA hB hC pa pb hv
   generalize qAV (L+1) (.mk 8 0 0 0 rf0 [] [a,b])=X at hX ⊢
   obtain⟨ao,an,ar,av,af,at',aa⟩:=a
   obtain⟨bo,bn,br,bv,bf,bt,ba⟩:=b
   refine qAA Tryz.func115 rfl rfl rfl ?_
   refine And.intro (fun h=>absurd (show(8:Int)=9 from h) (by decide)) (fun _=>?_)
   refine And.intro (fun _=>?_) (fun h=>absurd rfl h)
   refine And.intro (fun _=>?_) (fun h=>absurd (show(1:Int)<(L:Nat) by omega) h)
   refine(qA2 true (puts st ([])) ([tLP]) (by simp) (by have hz:=qAI ([]) st;simp only [qAL,wt] at hb hz ⊢;omega)).holds.useT [] [(2,3)] rfl (sk) (sk) fun e0 H0 hq=>?_
   rw [← qAE] at hq
   obtain⟨rfl,rfl⟩:=hq
   refine⟨rfl,_,⟨5,((4,bO (puts st ([]++[tLP])).s)::(0,wO 4 (puts st ([]++[tLP])))::[(2,ccO _)])⟩,rfl,rfl,?_⟩
   refine And.intro (fun h=>absurd (show(8:Int)=9 from h) (by decide)) (fun _=>?_)
   refine And.intro (fun _=>?_) (fun h=>absurd rfl h)
   refine⟨_,⟨by decide,_,rfl,rfl⟩,?_⟩
   refine(ha (puts st ([]++[tLP])) (by have hz:=qAI ([]++[tLP]) st;simp only [qAL,wt] at hb hz ⊢;omega)).holds.useT [] [(1,4)] rfl (sk) (sk) fun e0 H0 hq=>?_
   unfold WQ at hq
   rw [← qAE] at hq
   obtain⟨rfl,rfl⟩:=hq
   refine⟨rfl,_,⟨7,((6,bO (puts st (([]++[tLP])++A)).s)::(0,wO 6 (puts st (([]++[tLP])++A)))::[(5,sU [tRP]),(2,ccO _)])⟩,rfl,rfl,?_⟩
   refine(qA2 true (puts st (([]++[tLP])++A)) ([qDY]) (by simp) (by have hz:=qAI (([]++[tLP])++A) st;simp only [qAL,wt] at hb hz ⊢;omega)).holds.useT [] [(1,6),(2,7)] rfl (sk) (sk) fun e0 H0 hq=>?_
   rw [← qAE] at hq
   obtain⟨rfl,rfl⟩:=hq
   refine⟨rfl,_,⟨9,((8,bO (puts st (([]++[tLP])++A++[qDY])).s)::(0,wO 8 (puts st (([]++[tLP])++A++[qDY])))::[(5,sU [tRP]),(2,ccO _)])⟩,rfl,rfl,?_⟩
   refine⟨_,⟨by decide,_,rfl,rfl⟩,?_⟩
   refine(hc (puts st ((([]++[tLP])++A)++[qDY])) (by have hz:=qAI ((([]++[tLP])++A)++[qDY]) st;simp only [qAL,wt] at hb hz ⊢;omega)).holds.useT [] [(1,8)] rfl (sk) (sk) fun e0 H0 hq=>?_
   unfold WQ at hq
   rw [← qAE] at hq
   obtain⟨rfl,rfl⟩:=hq
   refine⟨rfl,_,⟨10,((9,bO (puts st (((([]++[tLP])++A)++[qDY])++B)).s)::(0,wO 9 (puts st (((([]++[tLP])++A)++[qDY])++B)))::[(5,sU [tRP]),(2,ccO _)])⟩,rfl,rfl,?_⟩
   refine(qSr true (puts st (((([]++[tLP])++A)++[qDY])++B)) [tRP] (by simp) (by have hz:=qAI (((([]++[tLP])++A)++[qDY])++B) st;simp only [qAL,wt] at hb hz ⊢;omega)).useT [] [(1,9),(2,5)] rfl (sk) (sk) fun e0 H0 hq=>?_
   rw [← qAE] at hq
   obtain⟨rfl,rfl⟩:=hq
   refine⟨rfl,_,⟨11,((10,bO (puts st ((((([]++[tLP])++A)++[qDY])++B)++[tRP])).s)::(0,wO 10 (puts st ((((([]++[tLP])++A)++[qDY])++B)++[tRP])))::[(2,ccO _)])⟩,rfl,rfl,?_⟩
   exact⟨[],[(2,10)],[], .returned und,wH' (puts st ((((([]++[tLP])++A)++[qDY])++B)++[tRP])),rfl,sk,sk,rfl,by rw [hX]⟩
  ·have hX:qAV (L+1) (.mk 8 0 0 0 rf0 [] [a,b])=(([]++A)++[qDY])++B:=by
    rw [qCx (by show ¬ lvl 8<L+1;have:lvl 8=2:=rfl;omega),hC];simp
   rw [hX] at hb
   clear hA hB hC pa pb hv
   generalize qAV (L+1) (.mk 8 0 0 0 rf0 [] [a,b])=X at hX ⊢
   obtain⟨ao,an,ar,av,af,at',aa⟩:=a
   obtain⟨bo,bn,br,bv,bf,bt,ba⟩:=b
   refine qAA Tryz.func115 rfl rfl rfl ?_
   refine And.intro (fun h=>absurd (show(8:Int)=9 from h) (by decide)) (fun _=>?_)
   refine And.intro (fun _=>?_) (fun h=>absurd rfl h)
   refine And.intro (fun h=>absurd (show(1:Int)<(L:Nat) from h) (by omega)) (fun _=>?_)
   refine And.intro (fun h=>absurd (show(8:Int)=9 from h) (by decide)) (fun _=>?_)
   refine And.intro (fun _=>?_) (fun h=>absurd rfl h)
   refine⟨_,⟨by decide,_,rfl,rfl⟩,?_⟩
   refine(ha (puts st []) (by show st.sz+wt A≤100000000;simp only [qAL,wt] at hb ⊢;omega)).holds.useT [] [] rfl (sk) (sk) fun e0 H0 hq=>?_
   unfold WQ at hq
   rw [← qAE] at hq
   obtain⟨rfl,rfl⟩:=hq
   refine⟨rfl,_,⟨4,((3,bO (puts st ([]++A)).s)::(0,wO 3 (puts st ([]++A)))::[(2,ccO _)])⟩,rfl,rfl,?_⟩
   refine(qA2 true (puts st ([]++A)) ([qDY]) (by simp) (by have hz:=qAI ([]++A) st;simp only [qAL,wt] at hb hz ⊢;omega)).holds.useT [] [(1,3),(2,4)] rfl (sk) (sk) fun e0 H0 hq=>?_
   rw [← qAE] at hq
   obtain⟨rfl,rfl⟩:=hq
   refine⟨rfl,_,⟨6,((5,bO (puts st ([]++A++[qDY])).s)::(0,wO 5 (puts st ([]++A++[qDY])))::[(2,ccO _)])⟩,rfl,rfl,?_⟩
   refine⟨_,⟨by decide,_,rfl,rfl⟩,?_⟩
   refine(hc (puts st (([]++A)++[qDY])) (by have hz:=qAI (([]++A)++[qDY]) st;simp only [qAL,wt] at hb hz ⊢;omega)).holds.useT [] [(1,5)] rfl (sk) (sk) fun e0 H0 hq=>?_
   unfold WQ at hq
   rw [← qAE] at hq
   obtain⟨rfl,rfl⟩:=hq
   refine⟨rfl,_,⟨7,((6,bO (puts st ((([]++A)++[qDY])++B)).s)::(0,wO 6 (puts st ((([]++A)++[qDY])++B)))::[(2,ccO _)])⟩,rfl,rfl,?_⟩
   exact⟨[],[(2,6)],[], .returned und,wH' (puts st ((([]++A)++[qDY])++B)),rfl,sk,sk,rfl,by rw [hX]⟩
 | disj a b pa pb=>
  have ha:=fun s h=>ih a pa s 0 (by omega) h
  have hc:=fun s h=>ih b pb s 1 (by omega) h
  obtain⟨A,hA⟩:∃ A,A=qAV 1 a:=⟨_,rfl⟩
  obtain⟨B,hB⟩:∃ B,B=qAV 2 b:=⟨_,rfl⟩
  have ha:∀ s:Wst,s.sz+wt A≤100000000→HoldsG cx 115 [.ptr 0 0 0, .p a.pv, .p (i64 (0:Nat))] (wH true s) (WQ (puts s A)):=fun s h=>by rw [hA] at h ⊢;exact ha s h
  have hc:∀ s:Wst,s.sz+wt B≤100000000→HoldsG cx 115 [.ptr 0 0 0, .p b.pv, .p (i64 (1:Nat))] (wH true s) (WQ (puts s B)):=fun s h=>by rw [hB] at h ⊢;exact hc s h
  have hC:qAj (.mk 9 0 0 0 rf0 [] [a,b])=A++tOr::B:=by rw [qCX,hA,hB]
  by_cases hp:0<L
  ·have hX:qAV (L+1) (.mk 9 0 0 0 rf0 [] [a,b])=(((([]++[tLP])++A)++[tOr])++B)++[tRP]:=by
    rw [qF0 (show lvl 9<L+1 by have:lvl 9=1:=rfl;omega),hC];simp
   rw [hX] at hb
   clear hA hB hC pa pb hv
   generalize qAV (L+1) (.mk 9 0 0 0 rf0 [] [a,b])=X at hX ⊢
   obtain⟨ao,an,ar,av,af,at',aa⟩:=a
   obtain⟨bo,bn,br,bv,bf,bt,ba⟩:=b
   refine qAA Tryz.func115 rfl rfl rfl ?_
   refine And.intro (fun _=>?_) (fun h=>absurd rfl h)
   refine And.intro (fun _=>?_) (fun h=>absurd (show(0:Int)<(L:Nat) by omega) h)
   refine(qA2 true (puts st ([])) ([tLP]) (by simp) (by have hz:=qAI ([]) st;simp only [qAL,wt] at hb hz ⊢;omega)).holds.useT [] [(2,3)] rfl (sk) (sk) fun e0 H0 hq=>?_
   rw [← qAE] at hq
   obtain⟨rfl,rfl⟩:=hq
   refine⟨rfl,_,⟨5,((4,bO (puts st ([]++[tLP])).s)::(0,wO 4 (puts st ([]++[tLP])))::[(2,ccO _)])⟩,rfl,rfl,?_⟩
   refine And.intro (fun _=>?_) (fun h=>absurd rfl h)
   refine⟨_,⟨by decide,_,rfl,rfl⟩,?_⟩
   refine(ha (puts st ([]++[tLP])) (by have hz:=qAI ([]++[tLP]) st;simp only [qAL,wt] at hb hz ⊢;omega)).holds.useT [] [(1,4)] rfl (sk) (sk) fun e0 H0 hq=>?_
   unfold WQ at hq
   rw [← qAE] at hq
   obtain⟨rfl,rfl⟩:=hq
   refine⟨rfl,_,⟨7,((6,bO (puts st (([]++[tLP])++A)).s)::(0,wO 6 (puts st (([]++[tLP])++A)))::[(5,sU [tRP]),(2,ccO _)])⟩,rfl,rfl,?_⟩
   refine(qA2 true (puts st (([]++[tLP])++A)) ([tOr]) (by simp) (by have hz:=qAI (([]++[tLP])++A) st;simp only [qAL,wt] at hb hz ⊢;omega)).holds.useT [] [(1,6),(2,7)] rfl (sk) (sk) fun e0 H0 hq=>?_
   rw [← qAE] at hq
   obtain⟨rfl,rfl⟩:=hq
   refine⟨rfl,_,⟨9,((8,bO (puts st (([]++[tLP])++A++[tOr])).s)::(0,wO 8 (puts st (([]++[tLP])++A++[tOr])))::[(5,sU [tRP]),(2,ccO _)])⟩,rfl,rfl,?_⟩
   refine⟨_,⟨by decide,_,rfl,rfl⟩,?_⟩
   refine(hc (puts st ((([]++[tLP])++A)++[tOr])) (by have hz:=qAI ((([]++[tLP])++A)++[tOr]) st;simp only [qAL,wt] at hb hz ⊢;omega)).holds.useT [] [(1,8)] rfl (sk) (sk) fun e0 H0 hq=>?_
   unfold WQ at hq
   rw [← qAE] at hq
   obtain⟨rfl,rfl⟩:=hq
   refine⟨rfl,_,⟨10,((9,bO (puts st (((([]++[tLP])++A)++[tOr])++B)).s)::(0,wO 9 (puts st (((([]++[tLP])++A)++[tOr])++B)))::[(5,sU [tRP]),(2,ccO _)])⟩,rfl,rfl,?_⟩
   refine(qSr true (puts st (((([]++[tLP])++A)++[tOr])++B)) [tRP] (by simp) (by have hz:=qAI (((([]++[tLP])++A)++[tOr])++B) st;simp only [qAL,wt] at hb hz ⊢;omega)).useT [] [(1,9),(2,5)] rfl (sk) (sk) fun e0 H0 hq=>?_
   rw [← qAE] at hq
   obtain⟨rfl,rfl⟩:=hq
   refine⟨rfl,_,⟨11,((10,bO (puts st ((((([]++[tLP])++A)++[tOr])++B)++[tRP])).s)::(0,wO 10 (puts st ((((([]++[tLP])++A)++[tOr])++B)++[tRP])))::[(2,ccO _)])⟩,rfl,rfl,?_⟩
   exact⟨[],[(2,10)],[], .returned und,wH' (puts st ((((([]++[tLP])++A)++[tOr])++B)++[tRP])),rfl,sk,sk,rfl,by rw [hX]⟩
  ·have hX:qAV (L+1) (.mk 9 0 0 0 rf0 [] [a,b])=(([]++A)++[tOr])++B:=by
    rw [qCx (by show ¬ lvl 9<L+1;have:lvl 9=1:=rfl;omega),hC];simp
   rw [hX] at hb
   clear hA hB hC pa pb hv
   generalize qAV (L+1) (.mk 9 0 0 0 rf0 [] [a,b])=X at hX ⊢
   obtain⟨ao,an,ar,av,af,at',aa⟩:=a
   obtain⟨bo,bn,br,bv,bf,bt,ba⟩:=b
   refine qAA Tryz.func115 rfl rfl rfl ?_
   refine And.intro (fun _=>?_) (fun h=>absurd rfl h)
   refine And.intro (fun h=>absurd (show(0:Int)<(L:Nat) from h) (by omega)) (fun _=>?_)
   refine And.intro (fun _=>?_) (fun h=>absurd rfl h)
   refine⟨_,⟨by decide,_,rfl,rfl⟩,?_⟩
   refine(ha (puts st []) (by show st.sz+wt A≤100000000;simp only [qAL,wt] at hb ⊢;omega)).holds.useT [] [] rfl (sk) (sk) fun e0 H0 hq=>?_
   unfold WQ at hq
   rw [← qAE] at hq
   obtain⟨rfl,rfl⟩:=hq
   refine⟨rfl,_,⟨4,((3,bO (puts st ([]++A)).s)::(0,wO 3 (puts st ([]++A)))::[(2,ccO _)])⟩,rfl,rfl,?_⟩
   refine(qA2 true (puts st ([]++A)) ([tOr]) (by simp) (by have hz:=qAI ([]++A) st;simp only [qAL,wt] at hb hz ⊢;omega)).holds.useT [] [(1,3),(2,4)] rfl (sk) (sk) fun e0 H0 hq=>?_
   rw [← qAE] at hq
   obtain⟨rfl,rfl⟩:=hq
   refine⟨rfl,_,⟨6,((5,bO (puts st ([]++A++[tOr])).s)::(0,wO 5 (puts st ([]++A++[tOr])))::[(2,ccO _)])⟩,rfl,rfl,?_⟩
   refine⟨_,⟨by decide,_,rfl,rfl⟩,?_⟩
   refine(hc (puts st (([]++A)++[tOr])) (by have hz:=qAI (([]++A)++[tOr]) st;simp only [qAL,wt] at hb hz ⊢;omega)).holds.useT [] [(1,5)] rfl (sk) (sk) fun e0 H0 hq=>?_
   unfold WQ at hq
   rw [← qAE] at hq
   obtain⟨rfl,rfl⟩:=hq
   refine⟨rfl,_,⟨7,((6,bO (puts st ((([]++A)++[tOr])++B)).s)::(0,wO 6 (puts st ((([]++A)++[tOr])++B)))::[(2,ccO _)])⟩,rfl,rfl,?_⟩
   exact⟨[],[(2,6)],[], .returned und,wH' (puts st ((([]++A)++[tOr])++B)),rfl,sk,sk,rfl,by rw [hX]⟩
theorem qTA:∀ d,qXI d
 | 0=>fun c h=>by obtain⟨l,k,h⟩:=h;cases h
 | d+1=>qOX (qTA d)
theorem qT2 (op:Int):1≤lvl op:=by
 unfold lvl
 split
 ·decide
 ·split
  ·decide
  ·split <;> decide
theorem qUV {op n rel val:Int} {r:Rf} {s:List Int} {ar:List Cd} (k:Nat) (h:qAn 8 (.mk op n rel val r s ar) 30=some k) (st:Wst) (hb:st.sz+wt (qAj (.mk op n rel val r s ar))≤100000000):HoldsG cx 115 [.ptr 0 0 0, .p (Cd.mk op n rel val r s ar).pv, .p (i64 0)] (wH true st) (WQ (puts st (qAj (.mk op n rel val r s ar)))):=by
 have e:qAV (0+1) (.mk op n rel val r s ar)=qAj (.mk op n rel val r s ar):=qCx (by have:=qT2 op;show ¬ lvl op<0+1;omega)
 have:=qTA 8 _ ⟨_,_,h⟩ st 0 (by omega) (by rw [e];exact hb)
 rw [e] at this
 exact this
end Go.Proofs.YtohfoaplnjcihaaGreatDoor
