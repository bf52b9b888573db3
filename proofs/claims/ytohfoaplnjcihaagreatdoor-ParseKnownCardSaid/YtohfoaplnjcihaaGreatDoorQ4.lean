/- Part 4 of the proof: Kr Ks Kt Ku Kv Kw Kx Ky Ga Ja Jb Jc Jd Je Jf Lo Lp Lq Lr Lv Lw Pa Pb Oa Yzd Yze Va Si Sk Vb Ob Oc Od Oe Of Og Vc Vd Ve Ra Rb Rc Rd -/
import Derived.Shelf.Strings.Builder1
import Derived.Shelf.Strings.Builder2
import Derived.Shelf.Small.Bits
import Derived.Shelf.Strings.BuilderF
import Derived.Shelf.Utf8.RuneCount
import Derived.Shelf.Strconv.Itoa0
import Derived.Shelf.Strconv.Itoa1
import Derived.Shelf.LaysM
import Derived.Shelf.Strconv.Itoa2
import Derived.Shelf.Strconv.Itoa3
import Derived.Shelf.Strings.Search1
import Derived.Shelf.Strings.Search2
import Derived.Shelf.Strings.Search3
import Derived.Shelf.Strings.Count
import Derived.Shelf.Strings.Shaped
import Derived.Shelf.Sort.Plain
import Derived.Shelf.Strings.Prefix
import Derived.Shelf.Strings.Split
import Derived.Shelf.Strings.Replace
import Derived.Shelf.Strings.SplitShaped
import Derived.Shelf.Unicode.Decode
import Derived.Shelf.Strings.RuneCount
import Derived.Shelf.Bits.Mul64
import Derived.Shelf.Strings.Repeat
import Derived.Shelf.Unicode.DecodeSlow
import Derived.Shelf.Unicode.DecodeAny
import Derived.Ground.Names2Prog
import Derived.Shelf.Slices.CompactI
import Derived.Shelf.Slices.SearchI
import Derived.Shelf.Slices.Cells
import Derived.Shelf.Slices.In.SortNone
import Derived.Test.YtohfoaplnjcihaaGreatDoorProg
import Derived.Below
import Derived.Test.YtohfoaplnjcihaaGreatDoorQ3
namespace Go.Proofs.YtohfoaplnjcihaaGreatDoor
open Go Y
set_option maxRecDepth 100000
set_option maxHeartbeats 4000000
def wgtB (n:Int):Bool:=decide (-9999≤n) && decide (n≤9999)
def numsB (l:List Int):Bool:=decide (1≤l.length) && decide (l.length≤8) && l.all wgtB
def noneB:Cd→Bool
 | .mk op n rel val r st ar=>decide (op=0) && plainB n rel val r st && decide (ar.length=0)
def casesT:List Cs→Bool
 | []=>true
 | [c]=>numsB c.nums && noneB c.cond
 | c::d::r=>numsB c.nums && (condV 8 c.cond 30).isSome && casesT (d::r)
def casesB (l:List Cs):Bool:=decide (1≤l.length) && decide (l.length≤12) && casesT l
structure BigL (l:List Cs):Prop where
 len:l.length≤9223372036854775807
 cond:∀ c∈l,BigC c.cond
 nums:∀ c∈l,c.nums.length≤9223372036854775807
def cs0:Cs:=⟨cd0,[]⟩
theorem scell {l:List Cs} {k:Nat} (h:k<l.length):(l.map Cs.cells)[k]?=some (l.getD k cs0).cells:=map_at cs0 h
theorem casesT_step {l:List Cs} {i:Nat} (h:i+1<l.length):casesT (l.drop i)=(numsB (l.getD i cs0).nums && (condV 8 (l.getD i cs0).cond 30).isSome && casesT (l.drop (i+1))):=by
 rw [dropD cs0 (by omega:i<l.length),dropD cs0 h,casesT]
theorem casesT_last {l:List Cs} {i:Nat} (h:i+1=l.length):casesT (l.drop i)=(numsB (l.getD i cs0).nums && noneB (l.getD i cs0).cond):=by
 rw [dropD cs0 (by omega:i<l.length),List.drop_eq_nil_of_le (by omega),casesT]
def kO (c:Cs):AObj:=⟨TCase,false, .bx (c.cells.map .p)⟩
theorem cases_c (l:List Cs) (hb:BigL l):Pure cx 82 [css l] (·=.ret [.bool (casesB l)]):=by
 refine pure_of_vc Tryz.func82 rfl rfl rfl ?_
 have hll:=hb.len
 have hm:(l.map Cs.cells).length=l.length:=List.length_map ..
 (first | refine brLt (fun h1=>?_) (fun h1=>?_) | refine brLe (fun h1=>?_) (fun h1=>?_) | refine brEq (fun h1=>?_) (fun h1=>?_))
 ·have h1:((l.map Cs.cells).length:Int)<1:=h1
  rw [hm] at h1
  exact end1 _ rfl rfl (retB (by rw [casesB,decide_eq_false (by omega)];rfl))
 have h1:¬ ((l.map Cs.cells).length:Int)<1:=h1
 rw [hm] at h1
 (first | refine brLt (fun h2=>?_) (fun h2=>?_) | refine brLe (fun h2=>?_) (fun h2=>?_) | refine brEq (fun h2=>?_) (fun h2=>?_))
 ·have h2:(12:Int)<((l.map Cs.cells).length:Nat):=h2
  rw [hm] at h2
  exact end1 _ rfl rfl (retB (by rw [casesB,decide_eq_false (show ¬ l.length≤12 by omega),Bool.and_false];rfl))
 have h2:¬ (12:Int)<((l.map Cs.cells).length:Nat):=h2
 rw [hm] at h2
 have hB0:casesB l=casesT (l.drop 0):=by rw [casesB,decide_eq_true (show 1≤l.length by omega),decide_eq_true (show l.length≤12 by omega)];rfl
 refine⟨Nat,fun i=>[(0, .p (css l)),(16, .p (css l)),(17, .p (i64 l.length)),(18, .p (i64 i))],fun _=>⟨0,[]⟩,fun i=>i<l.length∧casesB l=casesT (l.drop i),fun i=>l.length - i,?_,?_⟩
 ·exact⟨0,⟨by omega,hB0⟩,ent0 rfl ⟨rfl,rfl,congrArg (fun n:Nat=>i64 n) hm.symm,rfl,trivial⟩ trivial rfl⟩
 rintro i ⟨i1,i2⟩
 (first | refine brLt (fun j1=>?_) (fun j1=>?_) | refine brLe (fun j1=>?_) (fun j1=>?_) | refine brEq (fun j1=>?_) (fun j1=>?_))
 rotate_left
 ·exact absurd (show(i:Int)<(l.length:Nat) by omega) j1
 have hmem:=getD_memL cs0 i1
 have hbc:=hb.cond _ hmem
 have hbn:=hb.nums _ hmem
 have hcell:=scell i1
 have hstep:=fun h=>casesT_step (l:=l) (i:=i) h
 have hlast:=fun h=>casesT_last (l:=l) (i:=i) h
 rcases hx:l.getD i cs0 with ⟨⟨op,n,rel,val,r,st,ar⟩,nums⟩
 rw [hx] at hbc hbn hcell hstep hlast
 simp only [] at hbc hbn hstep hlast
 have hno:numsB nums=false→casesB l=false:=fun h=>by
  rw [i2]
  rcases Nat.lt_or_ge (i+1) l.length with h3 | h3
  ·rw [hstep h3,h];rfl
  ·rw [hlast (by omega),h];rfl
 have hnm:(nums.map i64).length=nums.length:=List.length_map ..
 refine⟨_,⟨by omega,(⟨.mk op n rel val r st ar,nums⟩:Cs).cells,hcell,rfl⟩,?_⟩
 (first | refine brLt (fun j2=>?_) (fun j2=>?_) | refine brLe (fun j2=>?_) (fun j2=>?_) | refine brEq (fun j2=>?_) (fun j2=>?_))
 ·have j2:((nums.map i64).length:Int)<1:=j2
  rw [hnm] at j2
  exact end1 _ rfl rfl (retB (hno (by rw [numsB,decide_eq_false (by omega)];rfl)).symm)
 have j2:¬ ((nums.map i64).length:Int)<1:=j2
 rw [hnm] at j2
 (first | refine brLt (fun j3=>?_) (fun j3=>?_) | refine brLe (fun j3=>?_) (fun j3=>?_) | refine brEq (fun j3=>?_) (fun j3=>?_))
 ·have j3:(8:Int)<((nums.map i64).length:Nat):=j3
  rw [hnm] at j3
  exact end1 _ rfl rfl (retB (hno (by rw [numsB,decide_eq_false (show ¬ nums.length≤8 by omega),Bool.and_false];rfl)).symm)
 have j3:¬ (8:Int)<((nums.map i64).length:Nat):=j3
 rw [hnm] at j3
 refine⟨Nat,fun k=>[(0, .p (css l)),(16, .p (css l)),(17, .p (i64 l.length)),(18, .p (i64 i)),(3, .p (i64 i)),(4, .ptr 0 0 0),(34, .p (ints nums)),(35, .p (i64 nums.length)),(36, .p (i64 k))],fun _=>⟨1,[(0,kO ⟨.mk op n rel val r st ar,nums⟩)]⟩,fun k=>k≤nums.length∧∀ x∈nums.take k,wgtB x=true,fun k=>nums.length - k,?_,?_⟩
 ·exact⟨0,⟨Nat.zero_le _,by simp⟩,ent_of [] [] [] rfl ⟨rfl,rfl,rfl,rfl,rfl,⟨rfl,rfl⟩,rfl,congrArg (fun n:Nat=>i64 n) hnm.symm,rfl,trivial⟩ (sk) rfl⟩
 rintro k ⟨k1,k2⟩
 (first | refine brLt (fun m1=>?_) (fun m1=>?_) | refine brLe (fun m1=>?_) (fun m1=>?_) | refine brEq (fun m1=>?_) (fun m1=>?_))
 ·have m1:(k:Int)<(nums.length:Nat):=m1
  have hk:k<nums.length:=by omega
  refine⟨_,⟨by omega,i64 (nums.getD k 0),icell hk,rfl⟩,?_⟩
  have bad:wgtB (nums.getD k 0)=false→casesB l=false:=fun h=>hno (by
   have:nums.all wgtB=false:=by
    rw [Bool.eq_false_iff]
    intro ha
    have:=List.all_eq_true.1 ha _ (getD_memL 0 hk)
    rw [h] at this;cases this
   rw [numsB,this,Bool.and_false])
  (first | refine brLt (fun m2=>?_) (fun m2=>?_) | refine brLe (fun m2=>?_) (fun m2=>?_) | refine brEq (fun m2=>?_) (fun m2=>?_))
  ·have m2:nums.getD k 0 < -9999:=m2
   exact end1 _ rfl rfl (retB (bad (by rw [wgtB,decide_eq_false (by omega)];rfl)).symm)
  have m2:¬ nums.getD k 0 < -9999:=m2
  (first | refine brLt (fun m3=>?_) (fun m3=>?_) | refine brLe (fun m3=>?_) (fun m3=>?_) | refine brEq (fun m3=>?_) (fun m3=>?_))
  ·have m3:(9999:Int)<nums.getD k 0:=m3
   exact end1 _ rfl rfl (retB (bad (by rw [wgtB,decide_eq_false (show ¬ nums.getD k 0≤9999 by omega),Bool.and_false])).symm)
  have m3:¬ (9999:Int)<nums.getD k 0:=m3
  refine⟨_,wrap_i64 (by omega) (by omega),?_⟩
  refine⟨k+1,⟨by omega,fun x hx=>?_⟩,ent_of [] [] [] rfl (sk) (sk) rfl,by show nums.length - (k+1)<nums.length - k;omega⟩
  rw [take_succ_getD 0 hk] at hx
  rcases List.mem_append.1 hx with hx | hx
  ·exact k2 x hx
  ·rw [List.mem_singleton.1 hx,wgtB,decide_eq_true (by omega),decide_eq_true (by omega)];rfl
 have m1:¬ (k:Int)<(nums.length:Nat):=m1
 have hnums:numsB nums=true:=by
  have:nums.all wgtB=true:=by
   rw [List.all_eq_true]
   rw [take_all (by omega)] at k2
   exact k2
  rw [numsB,this,decide_eq_true (by omega),decide_eq_true (by omega)];rfl
 refine⟨((l.length - 1:Nat):Int),by show _=IntKind.i64.wrap (((l.map Cs.cells).length:Int) - 1);rw [hm,show(l.length:Int) - 1=((l.length - 1:Nat):Int) by omega];exact wrap_i64 (by omega) (by omega),?_⟩
 (first | refine brLt (fun m4=>?_) (fun m4=>?_) | refine brLe (fun m4=>?_) (fun m4=>?_) | refine brEq (fun m4=>?_) (fun m4=>?_))
 ·have m4:(i:Int)=((l.length - 1:Nat):Int):=m4
  have hT:=hlast (by omega)
  rw [← i2,hnums,Bool.true_and] at hT
  have hP:=plain_c op n rel val r st ar (by simp only [BigC] at hbc;exact hbc.2.1)
  (first | refine brLt (fun p1=>?_) (fun p1=>?_) | refine brLe (fun p1=>?_) (fun p1=>?_) | refine brEq (fun p1=>?_) (fun p1=>?_))
  rotate_left
  ·have p1:¬ op=0:=p1
   exact end1 _ rfl rfl (retB (by rw [hT,noneB,decide_eq_false p1];rfl))
  have p1:op=0:=p1
  by_cases p2:plainB n rel val r st=true
  rotate_left
  ·rw [Bool.not_eq_true] at p2
   rw [p2] at hP
   refine hP.eq rfl ?_
   exact end1 _ rfl rfl (retB (by rw [hT,noneB,p2,Bool.and_false];rfl))
  rw [p2] at hP
  refine hP.eq rfl ?_
  (first | refine brLt (fun p3=>?_) (fun p3=>?_) | refine brLe (fun p3=>?_) (fun p3=>?_) | refine brEq (fun p3=>?_) (fun p3=>?_))
  ·have p3:((cellsL ar).length:Int)=0:=p3
   rw [cellsL_map,List.length_map] at p3
   exact end1 _ rfl rfl (retB (by rw [hT,noneB,p2,decide_eq_true p1,decide_eq_true (show ar.length=0 by omega)];rfl))
  ·have p3:¬ ((cellsL ar).length:Int)=0:=p3
   rw [cellsL_map,List.length_map] at p3
   exact end1 _ rfl rfl (retB (by rw [hT,noneB,decide_eq_false (show ¬ ar.length=0 by omega),Bool.and_false]))
 have m4:¬ (i:Int)=((l.length - 1:Nat):Int):=m4
 have hT:=hstep (by omega)
 rw [← i2,hnums,Bool.true_and] at hT
 have hC:=condv_all 8 (Nat.le_refl _) (.mk op n rel val r st ar) 30 1 hbc (by omega) (by omega)
 rcases hv:condV 8 (.mk op n rel val r st ar) 30 with _ | k2
 ·rw [hv] at hC hT
  refine hC.holds.useT [] [(0,1)] rfl (sk) (sk) fun e0 H0 hq=>?_
  obtain⟨rfl,rfl⟩:=hq
  refine⟨rfl,_,⟨2,[(0,kO ⟨.mk op n rel val r st ar,nums⟩)]⟩,rfl,rfl,?_⟩
  exact end1 _ rfl rfl (retB (by rw [hT];rfl))
 ·rw [hv] at hC hT
  refine hC.holds.useT [] [(0,1)] rfl (sk) (sk) fun e0 H0 hq=>?_
  obtain⟨rfl,rfl⟩:=hq
  refine⟨rfl,_,⟨2,[(1,lfO k2),(0,kO ⟨.mk op n rel val r st ar,nums⟩)]⟩,rfl,rfl,?_⟩
  refine⟨_,wrap_i64 (by omega) (by omega),?_⟩
  exact⟨i+1,⟨by omega,by rw [hT];rfl⟩,ent_of [] [] [] rfl (sk) (sk) rfl,by show l.length - (i+1)<l.length - i;omega⟩
def kindB (d:De):Bool:=
 if d.kind=1 then decide (d.name=[]) && decide (d.plate=[]) && decide (d.refs.length=0) && decide (d.cases.length=0)
 else if d.kind=2 then nameN d.name && decide (d.plate=[]) && decide (d.refs.length=0) && decide (d.cases.length=0)
 else if d.kind=3 then nameN d.name && (decide (d.plate=[]) || nameN d.plate) && casesB d.cases
 else if d.kind=4 then nameN d.name && decide (d.plate=[]) && decide (d.cases.length=0)
 else if d.kind=5 then decide (d.n=0) && decide (d.name=[]) && decide (d.plate=[]) && casesB d.cases else false
def declB (d:De):Bool:=natB d.n && decide (d.refs.length≤8) && d.refs.all refB && kindB d
def validB (ds:List De):Bool:=decide (ds.length≤30) && ds.all declB
def chkV (ds:List De):Int:=if validB ds then 0 else 380
structure BigD (d:De):Prop where
 name:BigS d.name
 plate:BigS d.plate
 len:d.refs.length≤9223372036854775807
 refs:∀ r∈d.refs,BigR r
 cases:BigL d.cases
structure BigP (ds:List De):Prop where
 len:ds.length≤9223372036854775807
 decl:∀ d∈ds,BigD d
def de0:De:=⟨0,0,[],[],[],[]⟩
theorem rcell {l:List Rf} {k:Nat} (h:k<l.length):(l.map Rf.cells)[k]?=some (l.getD k rf0).cells:=map_at rf0 h
theorem decell {l:List De} {k:Nat} (h:k<l.length):(l.map De.cells)[k]?=some (l.getD k de0).cells:=map_at de0 h
theorem all_no {α:Type} {l:List α} {f:α→Bool} {k:Nat} (d:α) (h:k<l.length) (hf:f (l.getD k d)=false):l.all f=false:=by
 rw [Bool.eq_false_iff]
 intro ha
 have:=List.all_eq_true.1 ha _ (getD_memL d h)
 rw [hf] at this;cases this
theorem declaration_c (d:De) (hb:BigD d):Pure cx 48 [d.pv] (·=.ret [.bool (declB d)]):=by
 refine pure_of_vc Tryz.func48 rfl rfl rfl ?_
 have hN:=natural_c d.n
 have hI:=isName_c d.name hb.name
 have hJ:=isName_c d.plate hb.plate
 have hC:=cases_c d.cases hb.cases
 have hrl:=hb.len
 have hcl:=hb.cases.len
 have hm:(d.refs.map Rf.cells).length=d.refs.length:=List.length_map ..
 by_cases n1:natB d.n=true
 rotate_left
 ·rw [Bool.not_eq_true] at n1
  rw [n1] at hN
  refine hN.eq rfl ?_
  exact end1 _ rfl rfl (retB (by rw [declB,n1];rfl))
 rw [n1] at hN
 refine hN.eq rfl ?_
 (first | refine brLt (fun h2=>?_) (fun h2=>?_) | refine brLe (fun h2=>?_) (fun h2=>?_) | refine brEq (fun h2=>?_) (fun h2=>?_))
 ·have h2:(8:Int)<((d.refs.map Rf.cells).length:Nat):=h2
  rw [hm] at h2
  exact end1 _ rfl rfl (retB (by rw [declB,decide_eq_false (show ¬ d.refs.length≤8 by omega),Bool.and_false];rfl))
 have h2:¬ (8:Int)<((d.refs.map Rf.cells).length:Nat):=h2
 rw [hm] at h2
 refine⟨Nat,fun k=>[(1, .ptr 0 0 0),(16, .p (rfl_ d.refs)),(17, .p (i64 d.refs.length)),(18, .p (i64 k))],fun _=>⟨1,[(0,deO d)]⟩,fun k=>k≤d.refs.length∧∀ x∈d.refs.take k,refB x=true,fun k=>d.refs.length - k,?_,?_⟩
 ·exact⟨0,⟨Nat.zero_le _,by simp⟩,ent_of [] [] [] rfl ⟨⟨rfl,rfl⟩,rfl,congrArg (fun n:Nat=>i64 n) hm.symm,rfl,trivial⟩ (sk) rfl⟩
 rintro k ⟨k1,k2⟩
 (first | refine brLt (fun m1=>?_) (fun m1=>?_) | refine brLe (fun m1=>?_) (fun m1=>?_) | refine brEq (fun m1=>?_) (fun m1=>?_))
 ·have m1:(k:Int)<(d.refs.length:Nat):=m1
  have hk:k<d.refs.length:=by omega
  refine⟨_,⟨by omega,(d.refs.getD k rf0).cells,rcell hk,rfl⟩,?_⟩
  have hR:=reference_c (d.refs.getD k rf0) (hb.refs _ (getD_memL rf0 hk))
  by_cases r1:refB (d.refs.getD k rf0)=true
  rotate_left
  ·rw [Bool.not_eq_true] at r1
   rw [r1] at hR
   refine hR.eq rfl ?_
   exact end1 _ rfl rfl (retB (by rw [declB,all_no rf0 hk r1,Bool.and_false];rfl))
  rw [r1] at hR
  refine hR.eq rfl ?_
  refine⟨_,wrap_i64 (by omega) (by omega),?_⟩
  refine⟨k+1,⟨by omega,fun x hx=>?_⟩,ent_of [] [] [] rfl (sk) (sk) rfl,by show d.refs.length - (k+1)<d.refs.length - k;omega⟩
  rw [take_succ_getD rf0 hk] at hx
  rcases List.mem_append.1 hx with hx | hx
  ·exact k2 x hx
  ·rw [List.mem_singleton.1 hx];exact r1
 have m1:¬ (k:Int)<(d.refs.length:Nat):=m1
 rw [take_all (by omega)] at k2
 have hfin:declB d=kindB d:=by rw [declB,n1,decide_eq_true (show d.refs.length≤8 by omega),List.all_eq_true.2 k2];rfl
 clear k1 k2 m1
 (first | refine brLt (fun o1=>?_) (fun o1=>?_) | refine brLe (fun o1=>?_) (fun o1=>?_) | refine brEq (fun o1=>?_) (fun o1=>?_))
 ·have o1:d.kind=1:=o1
  (first | refine brLt (fun p1=>?_) (fun p1=>?_) | refine brLe (fun p1=>?_) (fun p1=>?_) | refine brEq (fun p1=>?_) (fun p1=>?_))
  rotate_left
  ·have p1:¬ d.name=[]:=p1
   exact end1 _ rfl rfl (retB (by rw [hfin];simp [kindB, *]))
  have p1:d.name=[]:=p1
  (first | refine brLt (fun p2=>?_) (fun p2=>?_) | refine brLe (fun p2=>?_) (fun p2=>?_) | refine brEq (fun p2=>?_) (fun p2=>?_))
  rotate_left
  ·have p2:¬ d.plate=[]:=p2
   exact end1 _ rfl rfl (retB (by rw [hfin];simp [kindB, *]))
  have p2:d.plate=[]:=p2
  (first | refine brLt (fun p3=>?_) (fun p3=>?_) | refine brLe (fun p3=>?_) (fun p3=>?_) | refine brEq (fun p3=>?_) (fun p3=>?_))
  rotate_left
  ·have p3:¬ ((d.refs.map Rf.cells).length:Int)=0:=p3
   rw [List.length_map] at p3
   have p3:¬ d.refs=[]:=fun e=>p3 (by rw [e];rfl)
   exact end1 _ rfl rfl (retB (by rw [hfin];simp [kindB, *]))
  have p3:((d.refs.map Rf.cells).length:Int)=0:=p3
  rw [List.length_map] at p3
  have p3:d.refs=[]:=List.length_eq_zero_iff.1 (by omega)
  (first | refine brLt (fun p4=>?_) (fun p4=>?_) | refine brLe (fun p4=>?_) (fun p4=>?_) | refine brEq (fun p4=>?_) (fun p4=>?_))
  rotate_left
  ·have p4:¬ ((d.cases.map Cs.cells).length:Int)=0:=p4
   rw [List.length_map] at p4
   have p4:¬ d.cases=[]:=fun e=>p4 (by rw [e];rfl)
   exact end1 _ rfl rfl (retB (by rw [hfin];simp [kindB, *]))
  have p4:((d.cases.map Cs.cells).length:Int)=0:=p4
  rw [List.length_map] at p4
  have p4:d.cases=[]:=List.length_eq_zero_iff.1 (by omega)
  exact end1 _ rfl rfl (retB (by rw [hfin];simp [kindB, *]))
 have o1:¬ d.kind=1:=o1
 (first | refine brLt (fun o2=>?_) (fun o2=>?_) | refine brLe (fun o2=>?_) (fun o2=>?_) | refine brEq (fun o2=>?_) (fun o2=>?_))
 ·have o2:d.kind=2:=o2
  by_cases p1:nameN d.name=true
  rotate_left
  ·rw [Bool.not_eq_true] at p1
   rw [p1] at hI
   refine hI.eq rfl ?_
   exact end1 _ rfl rfl (retB (by rw [hfin];simp [kindB, *]))
  rw [p1] at hI
  refine hI.eq rfl ?_
  (first | refine brLt (fun p2=>?_) (fun p2=>?_) | refine brLe (fun p2=>?_) (fun p2=>?_) | refine brEq (fun p2=>?_) (fun p2=>?_))
  rotate_left
  ·have p2:¬ d.plate=[]:=p2
   exact end1 _ rfl rfl (retB (by rw [hfin];simp [kindB, *]))
  have p2:d.plate=[]:=p2
  (first | refine brLt (fun p3=>?_) (fun p3=>?_) | refine brLe (fun p3=>?_) (fun p3=>?_) | refine brEq (fun p3=>?_) (fun p3=>?_))
  rotate_left
  ·have p3:¬ ((d.refs.map Rf.cells).length:Int)=0:=p3
   rw [List.length_map] at p3
   have p3:¬ d.refs=[]:=fun e=>p3 (by rw [e];rfl)
   exact end1 _ rfl rfl (retB (by rw [hfin];simp [kindB, *]))
  have p3:((d.refs.map Rf.cells).length:Int)=0:=p3
  rw [List.length_map] at p3
  have p3:d.refs=[]:=List.length_eq_zero_iff.1 (by omega)
  (first | refine brLt (fun p4=>?_) (fun p4=>?_) | refine brLe (fun p4=>?_) (fun p4=>?_) | refine brEq (fun p4=>?_) (fun p4=>?_))
  rotate_left
  ·have p4:¬ ((d.cases.map Cs.cells).length:Int)=0:=p4
   rw [List.length_map] at p4
   have p4:¬ d.cases=[]:=fun e=>p4 (by rw [e];rfl)
   exact end1 _ rfl rfl (retB (by rw [hfin];simp [kindB, *]))
  have p4:((d.cases.map Cs.cells).length:Int)=0:=p4
  rw [List.length_map] at p4
  have p4:d.cases=[]:=List.length_eq_zero_iff.1 (by omega)
  exact end1 _ rfl rfl (retB (by rw [hfin];simp [kindB, *]))
 have o2:¬ d.kind=2:=o2
 (first | refine brLt (fun o3=>?_) (fun o3=>?_) | refine brLe (fun o3=>?_) (fun o3=>?_) | refine brEq (fun o3=>?_) (fun o3=>?_))
 ·have o3:d.kind=3:=o3
  by_cases p1:nameN d.name=true
  rotate_left
  ·rw [Bool.not_eq_true] at p1
   rw [p1] at hI
   refine hI.eq rfl ?_
   exact end1 _ rfl rfl (retB (by rw [hfin];simp [kindB, *]))
  rw [p1] at hI
  refine hI.eq rfl ?_
  (first | refine brLt (fun p2=>?_) (fun p2=>?_) | refine brLe (fun p2=>?_) (fun p2=>?_) | refine brEq (fun p2=>?_) (fun p2=>?_))
  ·have p2:d.plate=[]:=p2
   refine hC.eq rfl ?_
   exact end1 _ rfl rfl (retB (by rw [hfin];simp [kindB, *]))
  have p2:¬ d.plate=[]:=p2
  by_cases p3:nameN d.plate=true
  rotate_left
  ·rw [Bool.not_eq_true] at p3
   rw [p3] at hJ
   refine hJ.eq rfl ?_
   exact end1 _ rfl rfl (retB (by rw [hfin];simp [kindB, *]))
  rw [p3] at hJ
  refine hJ.eq rfl ?_
  refine hC.eq rfl ?_
  exact end1 _ rfl rfl (retB (by rw [hfin];simp [kindB, *]))
 have o3:¬ d.kind=3:=o3
 (first | refine brLt (fun o4=>?_) (fun o4=>?_) | refine brLe (fun o4=>?_) (fun o4=>?_) | refine brEq (fun o4=>?_) (fun o4=>?_))
 ·have o4:d.kind=4:=o4
  by_cases p1:nameN d.name=true
  rotate_left
  ·rw [Bool.not_eq_true] at p1
   rw [p1] at hI
   refine hI.eq rfl ?_
   exact end1 _ rfl rfl (retB (by rw [hfin];simp [kindB, *]))
  rw [p1] at hI
  refine hI.eq rfl ?_
  (first | refine brLt (fun p2=>?_) (fun p2=>?_) | refine brLe (fun p2=>?_) (fun p2=>?_) | refine brEq (fun p2=>?_) (fun p2=>?_))
  rotate_left
  ·have p2:¬ d.plate=[]:=p2
   exact end1 _ rfl rfl (retB (by rw [hfin];simp [kindB, *]))
  have p2:d.plate=[]:=p2
  (first | refine brLt (fun p4=>?_) (fun p4=>?_) | refine brLe (fun p4=>?_) (fun p4=>?_) | refine brEq (fun p4=>?_) (fun p4=>?_))
  rotate_left
  ·have p4:¬ ((d.cases.map Cs.cells).length:Int)=0:=p4
   rw [List.length_map] at p4
   have p4:¬ d.cases=[]:=fun e=>p4 (by rw [e];rfl)
   exact end1 _ rfl rfl (retB (by rw [hfin];simp [kindB, *]))
  have p4:((d.cases.map Cs.cells).length:Int)=0:=p4
  rw [List.length_map] at p4
  have p4:d.cases=[]:=List.length_eq_zero_iff.1 (by omega)
  exact end1 _ rfl rfl (retB (by rw [hfin];simp [kindB, *]))
 have o4:¬ d.kind=4:=o4
 (first | refine brLt (fun o5=>?_) (fun o5=>?_) | refine brLe (fun o5=>?_) (fun o5=>?_) | refine brEq (fun o5=>?_) (fun o5=>?_))
 ·have o5:d.kind=5:=o5
  (first | refine brLt (fun p1=>?_) (fun p1=>?_) | refine brLe (fun p1=>?_) (fun p1=>?_) | refine brEq (fun p1=>?_) (fun p1=>?_))
  rotate_left
  ·have p1:¬ d.n=0:=p1
   exact end1 _ rfl rfl (retB (by rw [hfin];simp [kindB, *]))
  have p1:d.n=0:=p1
  (first | refine brLt (fun p2=>?_) (fun p2=>?_) | refine brLe (fun p2=>?_) (fun p2=>?_) | refine brEq (fun p2=>?_) (fun p2=>?_))
  rotate_left
  ·have p2:¬ d.name=[]:=p2
   exact end1 _ rfl rfl (retB (by rw [hfin];simp [kindB, *]))
  have p2:d.name=[]:=p2
  (first | refine brLt (fun p3=>?_) (fun p3=>?_) | refine brLe (fun p3=>?_) (fun p3=>?_) | refine brEq (fun p3=>?_) (fun p3=>?_))
  rotate_left
  ·have p3:¬ d.plate=[]:=p3
   exact end1 _ rfl rfl (retB (by rw [hfin];simp [kindB, *]))
  have p3:d.plate=[]:=p3
  refine hC.eq rfl ?_
  exact end1 _ rfl rfl (retB (by rw [hfin];simp [kindB, *]))
 have o5:¬ d.kind=5:=o5
 exact end1 _ rfl rfl (retB (by rw [hfin];simp [kindB, *]))
theorem pcheck_c (ds:List De) (hb:BigP ds):Pure cx 15 [srcV ds] (·=.ret [i64 (chkV ds)]):=by
 refine pure_of_vc Tryz.func15 rfl rfl rfl ?_
 have hl:=hb.len
 have hm:(ds.map De.cells).length=ds.length:=List.length_map ..
 have bad:validB ds=false→chkV ds=380:=fun h=>by rw [chkV,h];rfl
 (first | refine brLt (fun h2=>?_) (fun h2=>?_) | refine brLe (fun h2=>?_) (fun h2=>?_) | refine brEq (fun h2=>?_) (fun h2=>?_))
 ·have h2:(30:Int)<((ds.map De.cells).length:Nat):=h2
  rw [hm] at h2
  exact end1 _ rfl rfl (retI (bad (by rw [validB,decide_eq_false (show ¬ ds.length≤30 by omega)];rfl)).symm)
 have h2:¬ (30:Int)<((ds.map De.cells).length:Nat):=h2
 rw [hm] at h2
 refine⟨Nat,fun k=>[(10, .p (des ds)),(11, .p (i64 ds.length)),(12, .p (i64 k))],fun _=>⟨0,[]⟩,fun k=>k≤ds.length∧∀ x∈ds.take k,declB x=true,fun k=>ds.length - k,?_,?_⟩
 ·exact⟨0,⟨Nat.zero_le _,by simp⟩,ent_of [] [] [] rfl ⟨rfl,congrArg (fun n:Nat=>i64 n) hm.symm,rfl,trivial⟩ trivial rfl⟩
 rintro k ⟨k1,k2⟩
 (first | refine brLt (fun m1=>?_) (fun m1=>?_) | refine brLe (fun m1=>?_) (fun m1=>?_) | refine brEq (fun m1=>?_) (fun m1=>?_))
 ·have m1:(k:Int)<(ds.length:Nat):=m1
  have hk:k<ds.length:=by omega
  refine⟨_,⟨by omega,(ds.getD k de0).cells,decell hk,rfl⟩,?_⟩
  have hR:=declaration_c (ds.getD k de0) (hb.decl _ (getD_memL de0 hk))
  by_cases r1:declB (ds.getD k de0)=true
  rotate_left
  ·rw [Bool.not_eq_true] at r1
   rw [r1] at hR
   refine hR.eq rfl ?_
   exact end1 _ rfl rfl (retI (bad (by rw [validB,all_no de0 hk r1,Bool.and_false])).symm)
  rw [r1] at hR
  refine hR.eq rfl ?_
  refine⟨_,wrap_i64 (by omega) (by omega),?_⟩
  refine⟨k+1,⟨by omega,fun x hx=>?_⟩,ent_of [] [] [] rfl (sk) trivial rfl,by show ds.length - (k+1)<ds.length - k;omega⟩
  rw [take_succ_getD de0 hk] at hx
  rcases List.mem_append.1 hx with hx | hx
  ·exact k2 x hx
  ·rw [List.mem_singleton.1 hx];exact r1
 have m1:¬ (k:Int)<(ds.length:Nat):=m1
 rw [take_all (by omega)] at k2
 exact end1 _ rfl rfl (retI (by rw [chkV,validB,decide_eq_true (show ds.length≤30 by omega),List.all_eq_true.2 k2];rfl))
theorem readN_good (s:List UInt8):∀ (f k:Nat) (acc ws:List Wd),GoodW acc→readN f s k acc=.ok ws→GoodW ws
 | 0,k,acc,ws,h,e=>by
  rw [readN] at e
  injection e with e
  subst e;exact h
 | f+1,k,acc,ws,h,e=>by
  rw [readN] at e
  split at e
  ·cases e
  ·rename_i n _
   rw [readB] at e
   split at e
   ·injection e with e
    subst e;exact h
   ·split at e
    ·cases e
    ·rename_i hr
     split at e
     ·cases e
     ·rename_i hn
      refine readN_good s f _ _ ws ⟨fun w hw=>?_,?_⟩ e
      ·rcases List.mem_append.1 hw with hw | hw
       ·exact h.right w hw
       ·rw [List.mem_singleton.1 hw];exact hr
      ·have:=h.len
       rw [snoc_len];omega
theorem read_good {s:List UInt8} {ws:List Wd} (h:readR s=.ok ws):GoodW ws:=
 readN_good s _ _ [] ws ⟨fun w hw=>by simp at hw,by simp⟩ h
theorem name_big {ws:List Wd} (hg:GoodW ws) {q q':Nat} {t:List UInt8} (h:nameR ws q=.inr (t,q')):BigS t:=by
 rw [nameR] at h
 split at h
 ·rename_i hk
  injection h with h;injection h with h1 h2
  have:=hg.at (knd_lt (ws:=ws) (q:=q) (by rw [hk];decide))
  rw [hk] at this
  have:nameN (txt ws q)=true:=this
  simp only [nameN,Bool.and_eq_true,decide_eq_true_eq] at this
  rw [BigS,← h1]
  have:=this.1.1.1.2
  omega
 ·cases h
theorem nil_big:BigS []:=by rw [BigS];simp
theorem tail_big {ws:List Wd} {nm pl:List UInt8} {m n:Int} {q q':Nat} {r:Rf} (h1:BigS nm) (h2:BigS pl) (h:refTail ws nm m pl n q=.inr (r,q')):BigR r:=by
 obtain⟨u,p,_,h⟩:=then_ok h
 injection h with h;injection h with h3 h4
 rw [← h3];exact⟨h1,h2⟩
theorem ref_big {ws:List Wd} (hg:GoodW ws) {q q':Nat} {r:Rf} (h:refR ws q=.inr (r,q')):BigR r:=by
 rw [refR] at h
 obtain⟨nm,q1,h1,h⟩:=then_ok h
 have b1:=name_big hg h1
 try simp only [] at h
 split at h
 ·split at h
  ·exact tail_big b1 nil_big h
  ·split at h
   ·obtain⟨n,q2,h2,h⟩:=then_ok h
    exact tail_big b1 nil_big h
   ·obtain⟨pl,q2,h2,h⟩:=then_ok h
    have b2:=name_big hg h2
    try simp only [] at h
    split at h
    ·obtain⟨n,q3,h3,h⟩:=then_ok h
     exact tail_big b1 b2 h
    ·exact tail_big b1 b2 h
 ·injection h with h;injection h with h3 h4
  rw [← h3];exact⟨b1,nil_big⟩
theorem more_all {α:Type} {ws:List Wd} {rd:Nat→Rd α} {P:α→Prop} (hrd:∀ q a q',rd q=.inr (a,q')→P a):∀ (f:Nat) {acc l:List α} {q q':Nat},(∀ a∈acc,P a)→moreR ws rd f acc q=.inr (l,q')→(∀ a∈l,P a)∧l.length≤acc.length+f
 | 0,_,_,_,_,_,h=>by cases h
 | f+1,acc,l,q,q',ha,h=>by
  rw [moreR] at h
  split at h
  ·obtain⟨a,q1,h1,h⟩:=then_ok h
   have h2:=more_all hrd f (acc:=acc++[a]) (fun b hb=>by
    rcases List.mem_append.1 hb with hb | hb
    ·exact ha b hb
    ·rw [List.mem_singleton.1 hb];exact hrd _ _ _ h1) h
   rw [snoc_len] at h2
   exact⟨h2.1,by omega⟩
  ·injection h with h;injection h with h1 h2
   rw [← h1];exact⟨ha,by omega⟩
theorem list_all {α:Type} {ws:List Wd} {rd:Nat→Rd α} {P:α→Prop} (hrd:∀ q a q',rd q=.inr (a,q')→P a) {F q q':Nat} {l:List α} (h:listR ws rd F q=.inr (l,q')):(∀ a∈l,P a)∧l.length≤F+1:=by
 rw [listR] at h
 obtain⟨a,q1,h1,h⟩:=then_ok h
 have:=more_all hrd F (acc:=[a]) (fun b hb=>by rw [List.mem_singleton.1 hb];exact hrd _ _ _ h1) h
 simp only [List.length_singleton] at this
 exact⟨this.1,by omega⟩
theorem refs_big {ws:List Wd} (hg:GoodW ws) {F:Nat} {key:List UInt8} {q q':Nat} {l:List Rf} (h:refsR ws F key q=.inr (l,q')):(∀ r∈l,BigR r)∧l.length≤F+1:=by
 rw [refsR] at h
 split at h
 ·exact list_all (fun q a q' h=>ref_big hg h) h
 ·injection h with h;injection h with h1 h2
  rw [← h1];exact⟨fun r hr=>by simp at hr,by simp⟩
theorem ints_len {ws:List Wd}:∀ (f:Nat) {acc l:List Int} {q q':Nat},intsR ws f acc q=.inr (l,q')→l.length≤acc.length+f
 | 0,_,_,_,_,h=>by cases h
 | f+1,acc,l,q,q',h=>by
  rw [intsR] at h
  split at h
  ·obtain⟨a,q1,h1,h⟩:=then_ok h
   have:=ints_len f h
   rw [snoc_len] at this;omega
  ·injection h with h;injection h with h1 h2
   rw [← h1];omega
theorem nums_len {ws:List Wd} {F q q':Nat} {l:List Int} (h:numsR ws F q=.inr (l,q')):l.length≤F+1:=by
 rw [numsR] at h
 obtain⟨a,q1,h1,h⟩:=then_ok h
 have:=ints_len F h
 simp only [List.length_singleton] at this;omega
theorem ins_len (l:List Int) (n:Int):(insN l n).length≤l.length+1:=by
 induction l with
 | nil=>simp [insN]
 | cons x l ih=>
  rw [insN]
  split
  ·simp
  ·split
   ·simp
   ·simp only [List.length_cons];omega
theorem set_len:∀ (l acc:List Int),(l.foldl insN acc).length≤acc.length+l.length
 | [],acc=>by simp
 | x::l,acc=>by
  have:=set_len l (insN acc x)
  have:=ins_len acc x
  simp only [List.foldl_cons,List.length_cons];omega
structure CBig (ws:List Wd) (F:Nat):Prop where
 cond:∀ {q c q'},condR ws F q=.inr (c,q')→BigC c
 orr:∀ {d q c q'},BigC d→orR ws F d q=.inr (c,q')→BigC c
 conj:∀ {q c q'},conjR ws F q=.inr (c,q')→BigC c
 andr:∀ {d q c q'},BigC d→andR ws F d q=.inr (c,q')→BigC c
 neg:∀ {q c q'},negR ws F q=.inr (c,q')→BigC c
 test:∀ {q c q'},testR ws F q=.inr (c,q')→BigC c
theorem big_two {op:Int} {a b:Cd} (ha:BigC a) (hb:BigC b):BigC (.mk op 0 0 0 rf0 [] [a,b]):=by
 simp only [BigC,BigCs]
 exact⟨⟨nil_big,nil_big⟩,by simp,by simp,ha,hb,trivial⟩
theorem big_one {op:Int} {a:Cd} (ha:BigC a):BigC (.mk op 0 0 0 rf0 [] [a]):=by
 simp only [BigC,BigCs]
 exact⟨⟨nil_big,nil_big⟩,by simp,by simp,ha,trivial⟩
theorem big_leaf {o n r v:Int} {rf:Rf} {st:List Int} (hr:BigR rf) (hs:st.length≤9223372036854775807):BigC (.mk o n r v rf st []):=by
 simp only [BigC,BigCs]
 exact⟨hr,hs,by simp,trivial⟩
theorem c_big (ws:List Wd) (hg:GoodW ws):∀ F,F≤100000→CBig ws F
 | 0,_=>by
  constructor
  ·intro q c q' h;rw [condR] at h;cases h
  ·intro d q c q' _ h;rw [orR] at h;cases h
  ·intro q c q' h;rw [conjR] at h;cases h
  ·intro d q c q' _ h;rw [andR] at h;cases h
  ·intro q c q' h;rw [negR] at h;cases h
  ·intro q c q' h;rw [testR] at h;cases h
 | F+1,hF=>by
  have ih:=c_big ws hg F (by omega)
  constructor
  ·intro q c q' h
   rw [condR] at h
   obtain⟨a,p,h1,h⟩:=then_ok h
   exact ih.orr (ih.conj h1) h
  ·intro d q c q' hd h
   rw [orR] at h
   split at h
   ·obtain⟨a,p,h1,h⟩:=then_ok h
    exact ih.orr (big_two hd (ih.conj h1)) h
   ·injection h with h;injection h with h1 h2
    rw [← h1];exact hd
  ·intro q c q' h
   rw [conjR] at h
   obtain⟨a,p,h1,h⟩:=then_ok h
   exact ih.andr (ih.neg h1) h
  ·intro d q c q' hd h
   rw [andR] at h
   split at h
   ·obtain⟨a,p,h1,h⟩:=then_ok h
    exact ih.andr (big_two hd (ih.neg h1)) h
   ·injection h with h;injection h with h1 h2
    rw [← h1];exact hd
  ·intro q c q' h
   rw [negR] at h
   split at h
   ·obtain⟨a,p,h1,h⟩:=then_ok h
    injection h with h;injection h with h2 h3
    rw [← h2];exact big_one (ih.neg h1)
   ·exact ih.test h
  ·intro q c q' h
   rw [testR] at h
   split at h
   ·obtain⟨a,p,h1,h⟩:=then_ok h
    obtain⟨u,p2,h2,h⟩:=then_ok h
    injection h with h;injection h with h3 h4
    rw [← h3];exact ih.cond h1
   ·split at h
    ·obtain⟨u,p1,h1,h⟩:=then_ok h
     obtain⟨nm,p2,h2,h⟩:=then_ok h
     obtain⟨u3,p3,h3,h⟩:=then_ok h
     obtain⟨v,p4,h4,h⟩:=then_ok h
     obtain⟨u5,p5,h5,h⟩:=then_ok h
     obtain⟨r,p6,h6,h⟩:=then_ok h
     obtain⟨n,p7,h7,h⟩:=then_ok h
     injection h with h;injection h with h8 h9
     rw [← h8];exact big_leaf ⟨name_big hg h2,nil_big⟩ (by simp)
    ·obtain⟨r,p1,h1,h⟩:=then_ok h
     have hr:=ref_big hg h1
     try simp only [] at h
     split at h
     ·obtain⟨u,p2,h2,h⟩:=then_ok h
      obtain⟨l,p3,h3,h⟩:=then_ok h
      obtain⟨u4,p4,h4,h⟩:=then_ok h
      have hl:=(list_all (P:=fun _=>True) (fun _ _ _ _=>trivial) h3).2
      have hs:=set_len l []
      injection h with h;injection h with h8 h9
      rw [← h8];exact big_leaf hr (by rw [setN];simp only [List.length_nil] at hs;omega)
     ·obtain⟨o,p2,h2,h⟩:=then_ok h
      obtain⟨n,p3,h3,h⟩:=then_ok h
      injection h with h;injection h with h8 h9
      rw [← h8];exact big_leaf hr (by simp)
structure BigK (F:Nat) (c:Cs):Prop where
 cond:BigC c.cond
 nums:c.nums.length≤F+1
theorem cases_big {ws:List Wd} (hg:GoodW ws) {F:Nat} (hF:F≤100000):∀ (f:Nat) {acc l:List Cs} {q q':Nat},(∀ c∈acc,BigK F c)→casesR ws F f acc q=.inr (l,q')→(∀ c∈l,BigK F c)∧l.length≤acc.length+f
 | 0,_,_,_,_,_,h=>by cases h
 | f+1,acc,l,q,q',ha,h=>by
  rw [casesR] at h
  split at h
  ·rw [ruleEnd] at h
   obtain⟨u,q1,h1,h⟩:=then_ok h
   obtain⟨l1,q2,h2,h⟩:=then_ok h
   obtain⟨u3,q3,h3,h⟩:=then_ok h
   injection h with h;injection h with h8 h9
   rw [← h8]
   refine⟨fun c hc=>?_,by rw [snoc_len];omega⟩
   rcases List.mem_append.1 hc with hc | hc
   ·exact ha c hc
   ·rw [List.mem_singleton.1 hc]
    exact⟨big_leaf ⟨nil_big,nil_big⟩ (by simp),nums_len h2⟩
  ·obtain⟨c,q1,h1,h⟩:=then_ok h
   obtain⟨u2,q2,h2,h⟩:=then_ok h
   obtain⟨l3,q3,h3,h⟩:=then_ok h
   obtain⟨u4,q4,h4,h⟩:=then_ok h
   have:=cases_big hg hF f (acc:=acc++[⟨c,l3⟩]) (fun x hx=>by
    rcases List.mem_append.1 hx with hx | hx
    ·exact ha x hx
    ·rw [List.mem_singleton.1 hx]
     exact⟨(c_big ws hg F hF).cond h1,nums_len h3⟩) h
   rw [snoc_len] at this
   exact⟨this.1,by omega⟩
theorem rule_big {ws:List Wd} (hg:GoodW ws) {F:Nat} (hF:F≤100000) {q q':Nat} {l:List Cs} (h:ruleR ws F q=.inr (l,q')):BigL l:=by
 rw [ruleR] at h
 obtain⟨u,q1,h1,h⟩:=then_ok h
 obtain⟨h2,h3⟩:=cases_big hg hF F (acc:=[]) (fun c hc=>by simp at hc) h
 simp only [List.length_nil] at h3
 exact⟨by omega,fun c hc=>(h2 c hc).cond,fun c hc=>by have:=(h2 c hc).nums;omega⟩
theorem noL_big:BigL []:=⟨by simp,fun c hc=>by simp at hc,fun c hc=>by simp at hc⟩
theorem ntail_big {ws:List Wd} (hg:GoodW ws) {F:Nat} (hF:F≤100000) {q q':Nat} {nm pl:List UInt8} {d:De} (b1:BigS nm) (b2:BigS pl) (h:nodeTail ws F nm pl q=.inr (d,q')):BigD d:=by
 rw [nodeTail] at h
 obtain⟨u1,q1,h1,h⟩:=then_ok h
 obtain⟨n,q2,h2,h⟩:=then_ok h
 obtain⟨l,q3,h3,h⟩:=then_ok h
 obtain⟨u4,q4,h4,h⟩:=then_ok h
 obtain⟨cs,q5,h5,h⟩:=then_ok h
 have hr:=refs_big hg h3
 injection h with h;injection h with h8 h9
 rw [← h8]
 exact⟨b1,b2,by have:=hr.2;simp only [];omega,hr.1,rule_big hg hF h5⟩
theorem decl_big {ws:List Wd} (hg:GoodW ws) {F:Nat} (hF:F≤100000) {q q':Nat} {d:De} (h:declR ws F q=.inr (d,q')):BigD d:=by
 rw [declR] at h
 split at h
 ·rw [grainR] at h
  obtain⟨n,q1,h1,h⟩:=then_ok h
  injection h with h;injection h with h8 h9
  rw [← h8]
  exact⟨nil_big,nil_big,by simp,fun r hr=>by simp at hr,noL_big⟩
 split at h
 ·rw [plateR] at h
  obtain⟨nm,q1,h1,h⟩:=then_ok h
  obtain⟨u,q2,h2,h⟩:=then_ok h
  obtain⟨n,q3,h3,h⟩:=then_ok h
  injection h with h;injection h with h8 h9
  rw [← h8]
  exact⟨name_big hg h1,nil_big,by simp,fun r hr=>by simp at hr,noL_big⟩
 split at h
 ·rw [nodeR] at h
  obtain⟨nm,q1,h1,h⟩:=then_ok h
  have b1:=name_big hg h1
  try simp only [] at h
  split at h
  ·obtain⟨pl,q2,h2,h⟩:=then_ok h
   obtain⟨u,q3,h3,h⟩:=then_ok h
   exact ntail_big hg hF b1 (name_big hg h2) h
  ·exact ntail_big hg hF b1 nil_big h
 split at h
 ·rw [chooseR] at h
  obtain⟨nm,q1,h1,h⟩:=then_ok h
  obtain⟨u,q2,h2,h⟩:=then_ok h
  obtain⟨n,q3,h3,h⟩:=then_ok h
  obtain⟨l,q4,h4,h⟩:=then_ok h
  have hr:=refs_big hg h4
  injection h with h;injection h with h8 h9
  rw [← h8]
  exact⟨name_big hg h1,nil_big,by have:=hr.2;simp only [];omega,hr.1,noL_big⟩
 split at h
 ·rw [gainR] at h
  obtain⟨l,q1,h1,h⟩:=then_ok h
  obtain⟨u,q2,h2,h⟩:=then_ok h
  obtain⟨cs,q3,h3,h⟩:=then_ok h
  have hr:=refs_big hg h1
  injection h with h;injection h with h8 h9
  rw [← h8]
  exact⟨nil_big,nil_big,by have:=hr.2;simp only [];omega,hr.1,rule_big hg hF h3⟩
 ·cases h
theorem prog_big {ws:List Wd} (hg:GoodW ws) {F:Nat} (hF:F≤100000):∀ (f:Nat) {acc l:List De} {q q':Nat},(∀ d∈acc,BigD d)→progR ws F f acc q=.inr (l,q')→(∀ d∈l,BigD d)∧l.length≤acc.length+f
 | 0,_,_,_,_,_,h=>by cases h
 | f+1,acc,l,q,q',ha,h=>by
  rw [progR] at h
  split at h
  ·obtain⟨d,q1,h1,h⟩:=then_ok h
   obtain⟨u,q2,h2,h⟩:=then_ok h
   have:=prog_big hg hF f (acc:=acc++[d]) (fun x hx=>by
    rcases List.mem_append.1 hx with hx | hx
    ·exact ha x hx
    ·rw [List.mem_singleton.1 hx];exact decl_big hg hF h1) h
   rw [snoc_len] at this
   exact⟨this.1,by omega⟩
  ·injection h with h;injection h with h8 h9
   rw [← h8];exact⟨ha,by omega⟩
theorem prog_bigP {ws:List Wd} (hg:GoodW ws) {F:Nat} (hF:F≤100000) {l:List De} {q':Nat} (h:progR ws F F [] 0=.inr (l,q')):BigP l:=by
 have:=prog_big hg hF F (acc:=[]) (fun d hd=>by simp at hd) h
 simp only [List.length_nil] at this
 exact⟨by omega,this.1⟩
def fuelW (ws:List Wd):Nat:=4 * ws.length+8
def parR (s:List UInt8):Sum ((Int × Int) × Int) (List De):=
 if 8000<s.length then .inl ((0,0),3) else match readR s with
 | .err p c=>.inl ((p.1,p.2),c)
 | .ok ws=>match progR ws (fuelW ws) (fuelW ws) [] 0 with
  | .inl q=>.inl (((wat ws q).line,(wat ws q).col),381)
  | .inr (ds,_)=>if validB ds=true then .inr ds else .inl ((0,0),3)
def parV:Sum ((Int × Int) × Int) (List De)→List PV
 | .inl (p,e)=>[srcV [],i64 p.1,i64 p.2,i64 e]
 | .inr ds=>[srcV ds,i64 0,i64 0,i64 0]
def iO1 (n:Int):AObj:=⟨TInt,false, .bx [.p (i64 n)]⟩
def eO1 (n:Int):AObj:=⟨45,false, .bx [.p (i64 n)]⟩
theorem readN_errP (s:List UInt8):∀ (f k:Nat) (acc:List Wd) (p:Nat × Nat) (c:Int),readN f s k acc=.err p c→c=370∨c=3
 | 0,k,acc,p,c,e=>by
  rw [readN] at e
  cases e
 | f+1,k,acc,p,c,e=>by
  rw [readN] at e
  split at e
  ·injection e with _ e;exact .inl e.symm
  ·rw [readB] at e
   split at e
   ·cases e
   ·split at e
    ·injection e with _ e;exact .inl e.symm
    ·split at e
     ·injection e with _ e;exact .inr e.symm
     ·exact readN_errP s f _ _ p c e
abbrev resH (N:Nat):Hp:=⟨N,[(3,eO1 0),(2,iO1 0),(1,iO1 0),(0,srO (.p .nils))]⟩
theorem parse_c (s:List UInt8):Pure cx 22 [.str s] (·=.ret (parV (parR s))):=by
 have hRd:=read_c s
 refine pure_of_vc Tryz.func22 rfl rfl rfl ?_
 by_cases h0:8000<s.length
 ·rw [readV,if_pos h0] at hRd
  refine hRd.eq rfl ?_
  have e:parR s=.inl ((0,0),3):=by rw [parR,if_pos h0]
  refine And.intro (fun h=>absurd (show(3:Int)=0 from h) (by decide)) (fun _=>?_)
  refine VDraw.seq rfl ?_
  refine⟨sk,?_⟩
  refine⟨sk,?_⟩
  refine⟨sk,?_⟩
  exact end4 (srcV []) (i64 0) (i64 0) (i64 3) rfl ⟨_,rfl,_,_,rfl, .inr (.inr ⟨6,rfl⟩),rfl⟩ rfl rfl rfl (by rw [e];rfl)
 cases hr:readR s with
 | err p c=>
  rw [readV,if_neg h0,hr] at hRd
  refine hRd.eq rfl ?_
  have e:parR s=.inl ((p.1,p.2),c):=by rw [parR,if_neg h0,hr]
  have hc:¬ c=0:=by
   have:=readN_errP s _ _ _ _ _ hr
   omega
  refine And.intro (fun h=>absurd (show c=0 from h) hc) (fun _=>?_)
  refine VDraw.seq rfl ?_
  refine⟨sk,?_⟩
  refine⟨sk,?_⟩
  refine⟨sk,?_⟩
  exact end4 (srcV []) (i64 p.1) (i64 p.2) (i64 c) rfl ⟨_,rfl,_,_,rfl, .inr (.inr ⟨6,rfl⟩),rfl⟩ rfl rfl rfl (by rw [e];rfl)
 | ok ws=>
  have hg:=read_good hr
  have hl:=hg.len
  rw [readV,if_neg h0,hr] at hRd
  refine hRd.eq rfl ?_
  refine And.intro (fun _=>?_) (fun h=>absurd rfl h)
  obtain⟨F,hF⟩:∃ F,F=fuelW ws:=⟨_,rfl⟩
  have hF8:4 * ws.length+8≤F:=by rw [hF];exact Nat.le_refl _
  have hFb:F≤100000:=by rw [hF,fuelW];omega
  have e:parR s=match progR ws F F [] 0 with
    | .inl q=>.inl (((wat ws q).line,(wat ws q).col),381)
    | .inr (ds,_)=>if validB ds=true then .inr ds else .inl ((0,0),3):=by rw [parR,if_neg h0,hr,hF]
  clear hF
  refine(program_h ws F 0 hF8 hg (Nat.zero_le _)).holds.useT [] [(0,4)] rfl (sk) (sk) fun e0 H0 hq=>?_
  rcases hp:progR ws F F [] 0 with q | ⟨ds,q⟩
  ·rw [hp] at hq e
   obtain⟨rfl,rfl⟩:=hq
   refine⟨rfl,_,resH 5,rfl,rfl,?_⟩
   refine holdsD_rec Tryz.func54 rfl rfl rfl ?_
   refine VDraw.seq rfl ?_
   refine⟨sk,?_⟩
   refine⟨sk,?_⟩
   refine⟨[],[],[], .returned und,⟨5,[(3,eO1 381),(2,iO1 (wat ws q).col),(1,iO1 (wat ws q).line),(0,srO (.p .nils))]⟩,rfl,sk,sk,?_⟩
   exact end4 (srcV []) (i64 (wat ws q).line) (i64 (wat ws q).col) (i64 381) rfl ⟨_,rfl,_,_,rfl, .inr (.inr ⟨6,rfl⟩),rfl⟩ rfl rfl rfl (by rw [e];rfl)
  ·rw [hp] at hq e
   obtain⟨hql,rfl,rfl⟩:=hq
   refine⟨rfl,_,⟨5,(4,psO ws q)::(resH 5).l⟩,rfl,rfl,?_⟩
   have hC:=pcheck_c ds (prog_bigP hg hFb hp)
   by_cases hv:validB ds=true
   ·rw [chkV,if_pos hv] at hC
    refine hC.eq rfl ?_
    refine And.intro (fun _=>?_) (fun h=>absurd rfl h)
    have e:parR s=.inr ds:=e.trans (if_pos hv)
    refine holdsD_rec Tryz.func54 rfl rfl rfl ?_
    refine⟨[],[],[], .returned und,⟨5,[(3,eO1 0),(2,iO1 0),(1,iO1 0),(0,srO (.p (des ds)))]⟩,rfl,sk,sk,?_⟩
    exact end4 (srcV ds) (i64 0) (i64 0) (i64 0) rfl rfl rfl rfl rfl (by rw [e];rfl)
   ·rw [chkV,if_neg hv] at hC
    refine hC.eq rfl ?_
    refine And.intro (fun h=>absurd (show(380:Int)=0 from h) (by decide)) (fun _=>?_)
    have e:parR s=.inl ((0,0),3):=e.trans (if_neg hv)
    refine holdsD_rec Tryz.func54 rfl rfl rfl ?_
    refine⟨[],[],[], .returned und,⟨5,[(3,eO1 3),(2,iO1 0),(1,iO1 0),(0,srO (.p .nils))]⟩,rfl,sk,sk,?_⟩
    exact end4 (srcV []) (i64 0) (i64 0) (i64 3) rfl ⟨_,rfl,_,_,rfl, .inr (.inr ⟨6,rfl⟩),rfl⟩ rfl rfl rfl (by rw [e];rfl)
set_option maxHeartbeats 40000000
theorem rnumber_c (n:Int):Pure cx 116 [i64 n] (·=.ret [.bool (natB n)]):=by
 refine pure_of_vc Tryz.func116 rfl rfl rfl ?_
 (first | refine brLt (fun h1=>?_) (fun h1=>?_) | refine brLe (fun h1=>?_) (fun h1=>?_) | refine brEq (fun h1=>?_) (fun h1=>?_))
 ·have h1:(0:Int)≤n:=h1
  (first | refine brLt (fun h2=>?_) (fun h2=>?_) | refine brLe (fun h2=>?_) (fun h2=>?_) | refine brEq (fun h2=>?_) (fun h2=>?_))
  ·have h2:n≤9999:=h2
   exact end1 _ rfl rfl (retB (by simp [natB,h1,h2]))
  ·have h2:¬ n≤9999:=h2
   exact end1 _ rfl rfl (retB (by simp [natB,h2]))
 ·have h1:¬ (0:Int)≤n:=h1
  exact end1 _ rfl rfl (retB (by simp [natB,h1]))
theorem rref_c (r:Rf) (hr:BigR r):Pure cx 159 [r.pv] (·=.ret [.bool (refB r)]):=by
 refine pure_of_vc Tryz.func159 rfl rfl rfl ?_
 have hN:=rName_c r.name hr.name
 by_cases n1:nameN r.name=true
 rotate_left
 ·rw [Bool.not_eq_true] at n1
  rw [n1] at hN
  refine hN.eq rfl ?_
  exact end1 _ rfl rfl (retB (by rw [refB,n1];rfl))
 rw [n1] at hN
 refine hN.eq rfl ?_
 have hP:=rName_c r.plate hr.plate
 have hA:=rnumber_c r.n
 (first | refine brLt (fun h1=>?_) (fun h1=>?_) | refine brLe (fun h1=>?_) (fun h1=>?_) | refine brEq (fun h1=>?_) (fun h1=>?_))
 ·have h1:r.mode=0:=h1
  (first | refine brLt (fun h2=>?_) (fun h2=>?_) | refine brLe (fun h2=>?_) (fun h2=>?_) | refine brEq (fun h2=>?_) (fun h2=>?_))
  ·have h2:r.plate=[]:=h2
   (first | refine brLt (fun h3=>?_) (fun h3=>?_) | refine brLe (fun h3=>?_) (fun h3=>?_) | refine brEq (fun h3=>?_) (fun h3=>?_))
   ·have h3:r.n=0:=h3
    exact end1 _ rfl rfl (retB (by simp [refB,n1,h1,h2,h3]))
   ·have h3:¬ r.n=0:=h3
    exact end1 _ rfl rfl (retB (by simp [refB,n1,h1,h2,h3]))
  ·have h2:¬ r.plate=[]:=h2
   exact end1 _ rfl rfl (retB (by simp [refB,n1,h1,h2]))
 have h1:¬ r.mode=0:=h1
 (first | refine brLt (fun h4=>?_) (fun h4=>?_) | refine brLe (fun h4=>?_) (fun h4=>?_) | refine brEq (fun h4=>?_) (fun h4=>?_))
 ·have h4:r.mode=3:=h4
  (first | refine brLt (fun h2=>?_) (fun h2=>?_) | refine brLe (fun h2=>?_) (fun h2=>?_) | refine brEq (fun h2=>?_) (fun h2=>?_))
  ·have h2:r.plate=[]:=h2
   (first | refine brLt (fun h3=>?_) (fun h3=>?_) | refine brLe (fun h3=>?_) (fun h3=>?_) | refine brEq (fun h3=>?_) (fun h3=>?_))
   ·have h3:r.n=0:=h3
    exact end1 _ rfl rfl (retB (by simp [refB,n1,h4,h2,h3]))
   ·have h3:¬ r.n=0:=h3
    exact end1 _ rfl rfl (retB (by simp [refB,n1,h4,h2,h3]))
  ·have h2:¬ r.plate=[]:=h2
   exact end1 _ rfl rfl (retB (by simp [refB,n1,h4,h2]))
 have h4:¬ r.mode=3:=h4
 (first | refine brLt (fun h5=>?_) (fun h5=>?_) | refine brLe (fun h5=>?_) (fun h5=>?_) | refine brEq (fun h5=>?_) (fun h5=>?_))
 ·have h5:r.mode=1:=h5
  by_cases n2:nameN r.plate=true
  ·rw [n2] at hP
   refine hP.eq rfl ?_
   refine hA.eq rfl ?_
   exact end1 _ rfl rfl (retB (by simp [refB,n1,n2,h5]))
  ·rw [Bool.not_eq_true] at n2
   rw [n2] at hP
   refine hP.eq rfl ?_
   exact end1 _ rfl rfl (retB (by simp [refB,n1,n2,h5]))
 have h5:¬ r.mode=1:=h5
 (first | refine brLt (fun h6=>?_) (fun h6=>?_) | refine brLe (fun h6=>?_) (fun h6=>?_) | refine brEq (fun h6=>?_) (fun h6=>?_))
 ·have h6:r.mode=2:=h6
  (first | refine brLt (fun h2=>?_) (fun h2=>?_) | refine brLe (fun h2=>?_) (fun h2=>?_) | refine brEq (fun h2=>?_) (fun h2=>?_))
  ·have h2:r.plate=[]:=h2
   refine hA.eq rfl ?_
   exact end1 _ rfl rfl (retB (by simp [refB,n1,h6,h2]))
  ·have h2:¬ r.plate=[]:=h2
   exact end1 _ rfl rfl (retB (by simp [refB,n1,h6,h2]))
 have h6:¬ r.mode=2:=h6
 exact end1 _ rfl rfl (retB (by simp [refB,h1,h4,h5,h6]))
theorem rtest_c (op n rel val:Int) (r:Rf) (st:List Int) (ar:List Cd) (hr:BigR r) (hs:st.length≤9223372036854775807):Pure cx 186 [(Cd.mk op n rel val r st ar).pv] (·=.ret [.bool (leafB op n rel val r st)]):=by
 refine pure_of_vc Tryz.func186 rfl rfl rfl ?_
 have hRf:=rref_c r hr
 have hNn:=rnumber_c n
 have hNv:=rnumber_c val
 have hm:(st.map i64).length=st.length:=List.length_map ..
 (first | refine brLt (fun o1=>?_) (fun o1=>?_) | refine brLe (fun o1=>?_) (fun o1=>?_) | refine brEq (fun o1=>?_) (fun o1=>?_))
 ·have o1:op=1:=o1
  by_cases r1:refB r=true
  rotate_left
  ·rw [Bool.not_eq_true] at r1
   rw [r1] at hRf
   refine hRf.eq rfl ?_
   exact end1 _ rfl rfl (retB (by simp [leafB, *]))
  rw [r1] at hRf
  refine hRf.eq rfl ?_
  by_cases r2:natB n=true
  rotate_left
  ·rw [Bool.not_eq_true] at r2
   rw [r2] at hNn
   refine hNn.eq rfl ?_
   exact end1 _ rfl rfl (retB (by simp [leafB, *]))
  rw [r2] at hNn
  refine hNn.eq rfl ?_
  (first | refine brLt (fun r3=>?_) (fun r3=>?_) | refine brLe (fun r3=>?_) (fun r3=>?_) | refine brEq (fun r3=>?_) (fun r3=>?_))
  rotate_left
  ·have r3:¬ rel=0:=r3
   exact end1 _ rfl rfl (retB (by simp [leafB, *]))
  have r3:rel=0:=r3
  (first | refine brLt (fun r4=>?_) (fun r4=>?_) | refine brLe (fun r4=>?_) (fun r4=>?_) | refine brEq (fun r4=>?_) (fun r4=>?_))
  rotate_left
  ·have r4:¬ val=0:=r4
   exact end1 _ rfl rfl (retB (by simp [leafB, *]))
  have r4:val=0:=r4
  (first | refine brLt (fun r9=>?_) (fun r9=>?_) | refine brLe (fun r9=>?_) (fun r9=>?_) | refine brEq (fun r9=>?_) (fun r9=>?_))
  rotate_left
  ·have r9:¬ ((st.map i64).length:Int)=0:=r9
   have r9:¬ st=[]:=fun e=>r9 (by rw [e];rfl)
   exact end1 _ rfl rfl (retB (by simp [leafB, *]))
  have r9:((st.map i64).length:Int)=0:=r9
  have r9:st=[]:=by rw [List.length_map] at r9;exact List.length_eq_zero_iff.1 (by omega)
  exact end1 _ rfl rfl (retB (by simp [leafB, *]))
 have o1:¬ op=1:=o1
 (first | refine brLt (fun o2=>?_) (fun o2=>?_) | refine brLe (fun o2=>?_) (fun o2=>?_) | refine brEq (fun o2=>?_) (fun o2=>?_))
 ·have o2:op=2:=o2
  by_cases r1:refB r=true
  rotate_left
  ·rw [Bool.not_eq_true] at r1
   rw [r1] at hRf
   refine hRf.eq rfl ?_
   exact end1 _ rfl rfl (retB (by simp [leafB, *]))
  rw [r1] at hRf
  refine hRf.eq rfl ?_
  by_cases r2:natB n=true
  rotate_left
  ·rw [Bool.not_eq_true] at r2
   rw [r2] at hNn
   refine hNn.eq rfl ?_
   exact end1 _ rfl rfl (retB (by simp [leafB, *]))
  rw [r2] at hNn
  refine hNn.eq rfl ?_
  (first | refine brLt (fun r3=>?_) (fun r3=>?_) | refine brLe (fun r3=>?_) (fun r3=>?_) | refine brEq (fun r3=>?_) (fun r3=>?_))
  rotate_left
  ·have r3:¬ rel=0:=r3
   exact end1 _ rfl rfl (retB (by simp [leafB, *]))
  have r3:rel=0:=r3
  (first | refine brLt (fun r4=>?_) (fun r4=>?_) | refine brLe (fun r4=>?_) (fun r4=>?_) | refine brEq (fun r4=>?_) (fun r4=>?_))
  rotate_left
  ·have r4:¬ val=0:=r4
   exact end1 _ rfl rfl (retB (by simp [leafB, *]))
  have r4:val=0:=r4
  (first | refine brLt (fun r9=>?_) (fun r9=>?_) | refine brLe (fun r9=>?_) (fun r9=>?_) | refine brEq (fun r9=>?_) (fun r9=>?_))
  rotate_left
  ·have r9:¬ ((st.map i64).length:Int)=0:=r9
   have r9:¬ st=[]:=fun e=>r9 (by rw [e];rfl)
   exact end1 _ rfl rfl (retB (by simp [leafB, *]))
  have r9:((st.map i64).length:Int)=0:=r9
  have r9:st=[]:=by rw [List.length_map] at r9;exact List.length_eq_zero_iff.1 (by omega)
  exact end1 _ rfl rfl (retB (by simp [leafB, *]))
 have o2:¬ op=2:=o2
 (first | refine brLt (fun o3=>?_) (fun o3=>?_) | refine brLe (fun o3=>?_) (fun o3=>?_) | refine brEq (fun o3=>?_) (fun o3=>?_))
 ·have o3:op=3:=o3
  by_cases r1:refB r=true
  rotate_left
  ·rw [Bool.not_eq_true] at r1
   rw [r1] at hRf
   refine hRf.eq rfl ?_
   exact end1 _ rfl rfl (retB (by simp [leafB, *]))
  rw [r1] at hRf
  refine hRf.eq rfl ?_
  by_cases r2:natB n=true
  rotate_left
  ·rw [Bool.not_eq_true] at r2
   rw [r2] at hNn
   refine hNn.eq rfl ?_
   exact end1 _ rfl rfl (retB (by simp [leafB, *]))
  rw [r2] at hNn
  refine hNn.eq rfl ?_
  (first | refine brLt (fun r3=>?_) (fun r3=>?_) | refine brLe (fun r3=>?_) (fun r3=>?_) | refine brEq (fun r3=>?_) (fun r3=>?_))
  rotate_left
  ·have r3:¬ rel=0:=r3
   exact end1 _ rfl rfl (retB (by simp [leafB, *]))
  have r3:rel=0:=r3
  (first | refine brLt (fun r4=>?_) (fun r4=>?_) | refine brLe (fun r4=>?_) (fun r4=>?_) | refine brEq (fun r4=>?_) (fun r4=>?_))
  rotate_left
  ·have r4:¬ val=0:=r4
   exact end1 _ rfl rfl (retB (by simp [leafB, *]))
  have r4:val=0:=r4
  (first | refine brLt (fun r9=>?_) (fun r9=>?_) | refine brLe (fun r9=>?_) (fun r9=>?_) | refine brEq (fun r9=>?_) (fun r9=>?_))
  rotate_left
  ·have r9:¬ ((st.map i64).length:Int)=0:=r9
   have r9:¬ st=[]:=fun e=>r9 (by rw [e];rfl)
   exact end1 _ rfl rfl (retB (by simp [leafB, *]))
  have r9:((st.map i64).length:Int)=0:=r9
  have r9:st=[]:=by rw [List.length_map] at r9;exact List.length_eq_zero_iff.1 (by omega)
  exact end1 _ rfl rfl (retB (by simp [leafB, *]))
 have o3:¬ op=3:=o3
 (first | refine brLt (fun o4=>?_) (fun o4=>?_) | refine brLe (fun o4=>?_) (fun o4=>?_) | refine brEq (fun o4=>?_) (fun o4=>?_))
 ·have o4:op=4:=o4
  by_cases r1:refB r=true
  rotate_left
  ·rw [Bool.not_eq_true] at r1
   rw [r1] at hRf
   refine hRf.eq rfl ?_
   exact end1 _ rfl rfl (retB (by simp [leafB, *]))
  rw [r1] at hRf
  refine hRf.eq rfl ?_
  by_cases r2:natB n=true
  rotate_left
  ·rw [Bool.not_eq_true] at r2
   rw [r2] at hNn
   refine hNn.eq rfl ?_
   exact end1 _ rfl rfl (retB (by simp [leafB, *]))
  rw [r2] at hNn
  refine hNn.eq rfl ?_
  (first | refine brLt (fun r3=>?_) (fun r3=>?_) | refine brLe (fun r3=>?_) (fun r3=>?_) | refine brEq (fun r3=>?_) (fun r3=>?_))
  rotate_left
  ·have r3:¬ rel=0:=r3
   exact end1 _ rfl rfl (retB (by simp [leafB, *]))
  have r3:rel=0:=r3
  (first | refine brLt (fun r4=>?_) (fun r4=>?_) | refine brLe (fun r4=>?_) (fun r4=>?_) | refine brEq (fun r4=>?_) (fun r4=>?_))
  rotate_left
  ·have r4:¬ val=0:=r4
   exact end1 _ rfl rfl (retB (by simp [leafB, *]))
  have r4:val=0:=r4
  (first | refine brLt (fun r9=>?_) (fun r9=>?_) | refine brLe (fun r9=>?_) (fun r9=>?_) | refine brEq (fun r9=>?_) (fun r9=>?_))
  rotate_left
  ·have r9:¬ ((st.map i64).length:Int)=0:=r9
   have r9:¬ st=[]:=fun e=>r9 (by rw [e];rfl)
   exact end1 _ rfl rfl (retB (by simp [leafB, *]))
  have r9:((st.map i64).length:Int)=0:=r9
  have r9:st=[]:=by rw [List.length_map] at r9;exact List.length_eq_zero_iff.1 (by omega)
  exact end1 _ rfl rfl (retB (by simp [leafB, *]))
 have o4:¬ op=4:=o4
 (first | refine brLt (fun o5=>?_) (fun o5=>?_) | refine brLe (fun o5=>?_) (fun o5=>?_) | refine brEq (fun o5=>?_) (fun o5=>?_))
 rotate_left
 ·have o5:¬ op=5:=o5
  (first | refine brLt (fun o6=>?_) (fun o6=>?_) | refine brLe (fun o6=>?_) (fun o6=>?_) | refine brEq (fun o6=>?_) (fun o6=>?_))
  rotate_left
  ·have o6:¬ op=6:=o6
   exact end1 _ rfl rfl (retB (by simp [leafB, *]))
  have o6:op=6:=o6
  by_cases r1:refB r=true
  rotate_left
  ·rw [Bool.not_eq_true] at r1
   rw [r1] at hRf
   refine hRf.eq rfl ?_
   exact end1 _ rfl rfl (retB (by simp [leafB, *]))
  rw [r1] at hRf
  refine hRf.eq rfl ?_
  (first | refine brLt (fun r2=>?_) (fun r2=>?_) | refine brLe (fun r2=>?_) (fun r2=>?_) | refine brEq (fun r2=>?_) (fun r2=>?_))
  rotate_left
  ·have r2:¬ r.mode=3:=r2
   exact end1 _ rfl rfl (retB (by simp [leafB, *]))
  have r2:r.mode=3:=r2
  by_cases r3:natB val=true
  rotate_left
  ·rw [Bool.not_eq_true] at r3
   rw [r3] at hNv
   refine hNv.eq rfl ?_
   exact end1 _ rfl rfl (retB (by simp [leafB, *]))
  rw [r3] at hNv
  refine hNv.eq rfl ?_
  by_cases r4:natB n=true
  rotate_left
  ·rw [Bool.not_eq_true] at r4
   rw [r4] at hNn
   refine hNn.eq rfl ?_
   exact end1 _ rfl rfl (retB (by simp [leafB, *]))
  rw [r4] at hNn
  refine hNn.eq rfl ?_
  (first | refine brLt (fun r5=>?_) (fun r5=>?_) | refine brLe (fun r5=>?_) (fun r5=>?_) | refine brEq (fun r5=>?_) (fun r5=>?_))
  rotate_left
  ·have r5:¬ (1:Int)≤rel:=r5
   exact end1 _ rfl rfl (retB (by simp [leafB, *]))
  have r5:(1:Int)≤rel:=r5
  (first | refine brLt (fun r6=>?_) (fun r6=>?_) | refine brLe (fun r6=>?_) (fun r6=>?_) | refine brEq (fun r6=>?_) (fun r6=>?_))
  rotate_left
  ·have r6:¬ rel≤4:=r6
   exact end1 _ rfl rfl (retB (by simp [leafB, *]))
  have r6:rel≤4:=r6
  (first | refine brLt (fun r9=>?_) (fun r9=>?_) | refine brLe (fun r9=>?_) (fun r9=>?_) | refine brEq (fun r9=>?_) (fun r9=>?_))
  rotate_left
  ·have r9:¬ ((st.map i64).length:Int)=0:=r9
   have r9:¬ st=[]:=fun e=>r9 (by rw [e];rfl)
   exact end1 _ rfl rfl (retB (by simp [leafB, *]))
  have r9:((st.map i64).length:Int)=0:=r9
  have r9:st=[]:=by rw [List.length_map] at r9;exact List.length_eq_zero_iff.1 (by omega)
  exact end1 _ rfl rfl (retB (by simp [leafB, *]))
 have o5:op=5:=o5
 have hno:setB st=false→leafB op n rel val r st=false:=fun h=>by simp [leafB, *]
 (first | refine brLt (fun h1=>?_) (fun h1=>?_) | refine brLe (fun h1=>?_) (fun h1=>?_) | refine brEq (fun h1=>?_) (fun h1=>?_))
 ·have h1:((st.map i64).length:Int)<1:=h1
  rw [hm] at h1
  exact end1 _ rfl rfl (retB (hno (by rw [setB,decide_eq_false (by omega)];rfl)).symm)
 have h1:¬ ((st.map i64).length:Int)<1:=h1
 rw [hm] at h1
 (first | refine brLt (fun h2=>?_) (fun h2=>?_) | refine brLe (fun h2=>?_) (fun h2=>?_) | refine brEq (fun h2=>?_) (fun h2=>?_))
 ·have h2:(8:Int)<((st.map i64).length:Nat):=h2
  rw [hm] at h2
  exact end1 _ rfl rfl (retB (hno (by rw [setB,decide_eq_false (show ¬ st.length≤8 by omega),Bool.and_false];rfl)).symm)
 have h2:¬ (8:Int)<((st.map i64).length:Nat):=h2
 rw [hm] at h2
 have hB0:setB st=incB st (st.length - 0) 0:=by rw [setB,decide_eq_true (show 1≤st.length by omega),decide_eq_true (show st.length≤8 by omega)];rfl
 refine⟨Nat,fun k=>[(1, .ptr 0 0 0),(3, .p (i64 k))],fun _=>⟨1,[(0,cO ((Cd.mk op n rel val r st ar).cells.map .p))]⟩,fun k=>k≤st.length∧setB st=incB st (st.length - k) k,fun k=>st.length - k,?_,?_⟩
 ·exact⟨0,⟨Nat.zero_le _,hB0⟩,ent_of [] [] [] rfl (sk) (sk) rfl⟩
 rintro k ⟨k1,k2⟩
 clear hB0
 (first | refine brLt (fun h3=>?_) (fun h3=>?_) | refine brLe (fun h3=>?_) (fun h3=>?_) | refine brEq (fun h3=>?_) (fun h3=>?_))
 rotate_left
 ·have h3:¬ (k:Int)<((st.map i64).length:Nat):=h3
  rw [hm] at h3
  rw [show st.length - k=0 by omega,incB] at k2
  by_cases r1:refB r=true
  rotate_left
  ·rw [Bool.not_eq_true] at r1
   rw [r1] at hRf
   refine hRf.eq rfl ?_
   exact end1 _ rfl rfl (retB (by simp [leafB, *]))
  rw [r1] at hRf
  refine hRf.eq rfl ?_
  (first | refine brLt (fun r2=>?_) (fun r2=>?_) | refine brLe (fun r2=>?_) (fun r2=>?_) | refine brEq (fun r2=>?_) (fun r2=>?_))
  rotate_left
  ·have r2:¬ n=0:=r2
   exact end1 _ rfl rfl (retB (by simp [leafB, *]))
  have r2:n=0:=r2
  (first | refine brLt (fun r3=>?_) (fun r3=>?_) | refine brLe (fun r3=>?_) (fun r3=>?_) | refine brEq (fun r3=>?_) (fun r3=>?_))
  rotate_left
  ·have r3:¬ rel=0:=r3
   exact end1 _ rfl rfl (retB (by simp [leafB, *]))
  have r3:rel=0:=r3
  (first | refine brLt (fun r4=>?_) (fun r4=>?_) | refine brLe (fun r4=>?_) (fun r4=>?_) | refine brEq (fun r4=>?_) (fun r4=>?_))
  rotate_left
  ·have r4:¬ val=0:=r4
   exact end1 _ rfl rfl (retB (by simp [leafB, *]))
  have r4:val=0:=r4
  exact end1 _ rfl rfl (retB (by simp [leafB, *]))
 have h3:(k:Int)<((st.map i64).length:Nat):=h3
 rw [hm] at h3
 have hk:k<st.length:=by omega
 obtain⟨f,hf⟩:∃ f,st.length - k=f+1:=⟨st.length - k - 1,by omega⟩
 rw [hf,incB] at k2
 refine VDraw.seq rfl ?_
 refine⟨_,⟨by omega,i64 (st.getD k 0),icell hk,rfl⟩,?_⟩
 have hN:=rnumber_c (st.getD k 0)
 by_cases n1:natB (st.getD k 0)=true
 rotate_left
 ·rw [Bool.not_eq_true] at n1
  rw [n1] at hN k2
  refine hN.eq rfl ?_
  exact end1 _ rfl rfl (retB (hno (by rw [k2];simp)).symm)
 rw [n1] at hN k2
 refine hN.eq rfl ?_
 (first | refine brLt (fun h4=>?_) (fun h4=>?_) | refine brLe (fun h4=>?_) (fun h4=>?_) | refine brEq (fun h4=>?_) (fun h4=>?_))
 ·have h4:(0:Int)<(k:Nat):=h4
  obtain⟨j,rfl⟩:∃ j,k=j+1:=⟨k - 1,by omega⟩
  refine⟨_,⟨by omega,i64 (st.getD (j+1) 0),icell hk,rfl⟩,?_⟩
  refine⟨(j:Int),by rw [show((j+1:Nat):Int) - 1=(j:Int) by omega];exact wrap_i64 (by omega) (by omega),?_⟩
  refine⟨_,⟨by omega,i64 (st.getD j 0),icell (by omega),rfl⟩,?_⟩
  (first | refine brLt (fun h5=>?_) (fun h5=>?_) | refine brLe (fun h5=>?_) (fun h5=>?_) | refine brEq (fun h5=>?_) (fun h5=>?_))
  ·have h5:st.getD (j+1) 0≤st.getD j 0:=h5
   exact end1 _ rfl rfl (retB (hno (by rw [k2,Nat.add_sub_cancel,decide_eq_false (show ¬ st.getD j 0<st.getD (j+1) 0 by omega),decide_eq_false (by omega)];rfl)).symm)
  ·have h5:¬ st.getD (j+1) 0≤st.getD j 0:=h5
   refine⟨_,wrap_i64 (by omega) (by omega),?_⟩
   exact⟨j+1+1,⟨by omega,by rw [k2,Nat.add_sub_cancel,decide_eq_true (show st.getD j 0<st.getD (j+1) 0 by omega),Bool.or_true,show st.length - (j+1+1)=f by omega];rfl⟩,ent_of [] [] [] rfl (sk) (sk) rfl,by show st.length - (j+1+1)<st.length - (j+1);omega⟩
 ·have h4:¬ (0:Int)<(k:Nat):=h4
  have hk0:k=0:=by omega
  subst hk0
  refine⟨_,wrap_i64 (by omega) (by omega),?_⟩
  exact⟨0+1,⟨by omega,by rw [k2,show st.length - (0+1)=f by omega];rfl⟩,ent_of [] [] [] rfl (sk) (sk) rfl,by show st.length - (0+1)<st.length - 0;omega⟩
def cntV:Option Nat→Int
 | some l=>(l:Int)
 | none=>-1
def CtOK (d:Nat):Prop:=∀ (c:Cd) (left p:Nat),BigC c→left≤1000→p+d=9→Pure cx 162 [c.pv,i64 left,i64 p] (·=.ret [i64 (cntV (condV d c left))])
theorem rf_eq {r:Rf} (h4:r.cells=rf0.cells):r=rf0:=by
 obtain⟨a,b,c,d⟩:=r
 simp only [Rf.cells,rf0,List.cons.injEq,PV.str.injEq,PV.int.injEq,true_and,and_true] at h4
 obtain⟨rfl,rfl,rfl,rfl⟩:=h4
 rfl
theorem count_s (d:Nat) (ih:CtOK d):CtOK (d+1):=by
 rintro⟨op,n,rel,val,r,st,ar⟩ left p hb hl hp9
 simp only [BigC] at hb
 obtain⟨hb1,hb2,hb3,hb4⟩:=hb
 have hT:=rtest_c op n rel val r st ar hb1 hb2
 have epv:(Cd.mk op n rel val r st ar).pv=.agg [i64 op,i64 n,i64 rel,i64 val, .str r.name,i64 r.mode, .str r.plate,i64 r.n,ints st,cds ar]:=by
  show PV.agg [i64 op,i64 n,i64 rel,i64 val, .str r.name,i64 r.mode, .str r.plate,i64 r.n,ints st, .lsts 10 (cellsL ar)]=_
  rw [cellsL_map]
 rw [epv] at hT ⊢
 generalize hR:condV (d+1) (.mk op n rel val r st ar) left=R
 rw [condV] at hR
 refine pure_of_vc Tryz.func162 rfl rfl rfl ?_
 rcases Nat.eq_zero_or_pos left with h0 | h0
 ·subst h0
  rw [if_pos rfl] at hR
  refine And.intro (fun _=>?_) (fun h=>absurd (show(0:Int)<1 by decide) h)
  exact end1 _ rfl rfl (retI (by rw [← hR];rfl))
 obtain⟨m,rfl⟩:∃ m,left=m+1:=⟨left - 1,by omega⟩
 rw [if_neg (by omega),Nat.add_sub_cancel] at hR
 have hno:headB op n rel val r st ar.length=false→R=none:=fun h=>by rw [← hR,if_neg (by rw [h];decide)]
 have hyes:headB op n rel val r st ar.length=true→ar.foldlM (fun l c=>condV d c l) m=R:=fun h=>by rw [← hR,if_pos h]
 clear hR
 refine And.intro (fun h=>absurd (show((m+1:Nat):Int)<1 from h) (by omega)) (fun _=>?_)
 refine And.intro (fun h=>absurd (show(8:Int)<(p:Nat) from h) (by omega)) (fun _=>?_)
 (first | refine brLt (fun o7=>?_) (fun o7=>?_) | refine brLe (fun o7=>?_) (fun o7=>?_) | refine brEq (fun o7=>?_) (fun o7=>?_))
 ·have o7:op=7:=o7
  by_cases hk:ar.length=1
  rotate_left
  ·refine And.intro (fun h=>absurd (show((ar.map Cd.cells).length:Int)=1 from h) (by rw [List.length_map];omega)) (fun _=>?_)
   exact end1 _ rfl rfl (retI (by rw [hno (by simp [headB,argsN, *])];rfl))
  refine And.intro (fun _=>?_) (fun h=>absurd (show((ar.map Cd.cells).length:Int)=1 by rw [List.length_map];omega) h)
  refine And.intro (fun h=>absurd (show(1:Int)=0 from h) (by decide)) (fun _=>?_)
  refine And.intro (fun r1=>?_) (fun r1=>?_)
  rotate_left
  ·have r1:¬ n=0:=r1
   exact end1 _ rfl rfl (retI (by rw [hno (by simp [headB,argsN,plainB, *])];rfl))
  have r1:n=0:=r1
  refine And.intro (fun r2=>?_) (fun r2=>?_)
  rotate_left
  ·have r2:¬ rel=0:=r2
   exact end1 _ rfl rfl (retI (by rw [hno (by simp [headB,argsN,plainB, *])];rfl))
  have r2:rel=0:=r2
  refine And.intro (fun r3=>?_) (fun r3=>?_)
  rotate_left
  ·have r3:¬ val=0:=r3
   exact end1 _ rfl rfl (retI (by rw [hno (by simp [headB,argsN,plainB, *])];rfl))
  have r3:val=0:=r3
  refine⟨⟨by kernel_rfl,by kernel_rfl⟩,fun r4=>?_,fun r4=>?_⟩
  rotate_left
  ·have r4:¬ r=rf0:=fun e=>r4 (by rw [e];rfl)
   exact end1 _ rfl rfl (retI (by rw [hno (by simp [headB,argsN,plainB, *])];rfl))
  have r4:r=rf0:=rf_eq (by first | exact r4 | (injection r4))
  refine And.intro (fun r5=>?_) (fun r5=>?_)
  rotate_left
  ·have r5:¬ ((st.map i64).length:Int)=0:=r5
   have r5:¬ st=[]:=fun e=>r5 (by rw [e];rfl)
   exact end1 _ rfl rfl (retI (by rw [hno (by simp [headB,argsN,plainB, *])];rfl))
  have r5:((st.map i64).length:Int)=0:=r5
  have r5:st=[]:=by rw [List.length_map] at r5;exact List.length_eq_zero_iff.1 (by omega)
  have hy:=hyes (by simp [headB,argsN,plainB, *])
  refine⟨(m:Int),by rw [show((m+1:Nat):Int) - 1=(m:Int) by omega];exact wrap_i64 (by omega) (by omega),?_⟩
  refine⟨Nat × Nat,fun x=>[(1, .p (i64 x.2)),(2, .p (i64 p)),(3, .ptr 0 0 0),(7, .p (i64 1)),(8, .p (i64 x.1))],fun x=>⟨1,[(0,cO [.p (i64 op), .p (i64 n), .p (i64 rel), .p (i64 val), .p (.str r.name), .p (i64 r.mode), .p (.str r.plate), .p (i64 r.n), .p (ints st), .p (cds ar)])]⟩,fun x=>x.1≤ar.length∧x.2≤1000∧(ar.drop x.1).foldlM (fun l c=>condV d c l) x.2=R,fun x=>ar.length - x.1,?_,?_⟩
  ·exact⟨(0,m),⟨Nat.zero_le _,by simp only [];omega,hy⟩,ent_of [] [] [] rfl (sk) (sk) rfl⟩
  rintro⟨i,l⟩ ⟨i1,i2,i3⟩
  simp only [] at i1 i2 i3
  (first | refine brLt (fun j1=>?_) (fun j1=>?_) | refine brLe (fun j1=>?_) (fun j1=>?_) | refine brEq (fun j1=>?_) (fun j1=>?_))
  rotate_left
  ·have j1:¬ (i:Int)<1:=j1
   rw [List.drop_eq_nil_of_le (by omega),List.foldlM_nil] at i3
   exact end1 _ rfl rfl (retI (by rw [← i3];rfl))
  have j1:(i:Int)<1:=j1
  have hi:i<ar.length:=by omega
  rw [dropD cd0 hi,List.foldlM_cons] at i3
  have hbx:=bigCs_mem hb4 (getD_memL cd0 hi)
  have hcell:=ccell hi
  rcases hx:ar.getD i cd0 with ⟨o',n',rl',vl',rf',st',ar'⟩
  rw [hx] at i3 hbx hcell
  refine⟨_,⟨by omega,(Cd.mk o' n' rl' vl' rf' st' ar').cells,hcell,rfl⟩,?_⟩
  refine⟨((p+1:Nat):Int),wrap_i64 (by omega) (by omega),?_⟩
  have hrec:=ih (.mk o' n' rl' vl' rf' st' ar') l (p+1) hbx (by omega) (by omega)
  rcases hv:condV d (.mk o' n' rl' vl' rf' st' ar') l with _ | l2
  ·rw [hv] at hrec i3
   refine hrec.eq rfl ?_
   refine And.intro (fun _=>?_) (fun h=>absurd (show(-1:Int)<0 by decide) h)
   exact end1 _ rfl rfl (retI (by rw [← i3];rfl))
  ·have hle:=condV_le _ _ _ _ hv
   rw [hv] at hrec i3
   refine hrec.eq rfl ?_
   refine And.intro (fun h=>absurd (show(l2:Int)<0 from h) (by omega)) (fun _=>?_)
   refine⟨_,wrap_i64 (by omega) (by omega),?_⟩
   exact⟨(i+1,l2),⟨by simp only [];omega,by simp only [];omega,i3⟩,ent_of [] [] [] rfl (sk) (sk) rfl,by show ar.length - (i+1)<ar.length - i;omega⟩
 have o7:¬ op=7:=o7
 (first | refine brLt (fun o8=>?_) (fun o8=>?_) | refine brLe (fun o8=>?_) (fun o8=>?_) | refine brEq (fun o8=>?_) (fun o8=>?_))
 ·have o8:op=8:=o8
  by_cases hk:ar.length=2
  rotate_left
  ·refine And.intro (fun h=>absurd (show((ar.map Cd.cells).length:Int)=2 from h) (by rw [List.length_map];omega)) (fun _=>?_)
   exact end1 _ rfl rfl (retI (by rw [hno (by simp [headB,argsN, *])];rfl))
  refine And.intro (fun _=>?_) (fun h=>absurd (show((ar.map Cd.cells).length:Int)=2 by rw [List.length_map];omega) h)
  refine And.intro (fun h=>absurd (show(2:Int)=0 from h) (by decide)) (fun _=>?_)
  refine And.intro (fun r1=>?_) (fun r1=>?_)
  rotate_left
  ·have r1:¬ n=0:=r1
   exact end1 _ rfl rfl (retI (by rw [hno (by simp [headB,argsN,plainB, *])];rfl))
  have r1:n=0:=r1
  refine And.intro (fun r2=>?_) (fun r2=>?_)
  rotate_left
  ·have r2:¬ rel=0:=r2
   exact end1 _ rfl rfl (retI (by rw [hno (by simp [headB,argsN,plainB, *])];rfl))
  have r2:rel=0:=r2
  refine And.intro (fun r3=>?_) (fun r3=>?_)
  rotate_left
  ·have r3:¬ val=0:=r3
   exact end1 _ rfl rfl (retI (by rw [hno (by simp [headB,argsN,plainB, *])];rfl))
  have r3:val=0:=r3
  refine⟨⟨by kernel_rfl,by kernel_rfl⟩,fun r4=>?_,fun r4=>?_⟩
  rotate_left
  ·have r4:¬ r=rf0:=fun e=>r4 (by rw [e];rfl)
   exact end1 _ rfl rfl (retI (by rw [hno (by simp [headB,argsN,plainB, *])];rfl))
  have r4:r=rf0:=rf_eq (by first | exact r4 | (injection r4))
  refine And.intro (fun r5=>?_) (fun r5=>?_)
  rotate_left
  ·have r5:¬ ((st.map i64).length:Int)=0:=r5
   have r5:¬ st=[]:=fun e=>r5 (by rw [e];rfl)
   exact end1 _ rfl rfl (retI (by rw [hno (by simp [headB,argsN,plainB, *])];rfl))
  have r5:((st.map i64).length:Int)=0:=r5
  have r5:st=[]:=by rw [List.length_map] at r5;exact List.length_eq_zero_iff.1 (by omega)
  have hy:=hyes (by simp [headB,argsN,plainB, *])
  refine⟨(m:Int),by rw [show((m+1:Nat):Int) - 1=(m:Int) by omega];exact wrap_i64 (by omega) (by omega),?_⟩
  refine⟨Nat × Nat,fun x=>[(1, .p (i64 x.2)),(2, .p (i64 p)),(3, .ptr 0 0 0),(7, .p (i64 2)),(8, .p (i64 x.1))],fun x=>⟨1,[(0,cO [.p (i64 op), .p (i64 n), .p (i64 rel), .p (i64 val), .p (.str r.name), .p (i64 r.mode), .p (.str r.plate), .p (i64 r.n), .p (ints st), .p (cds ar)])]⟩,fun x=>x.1≤ar.length∧x.2≤1000∧(ar.drop x.1).foldlM (fun l c=>condV d c l) x.2=R,fun x=>ar.length - x.1,?_,?_⟩
  ·exact⟨(0,m),⟨Nat.zero_le _,by simp only [];omega,hy⟩,ent_of [] [] [] rfl (sk) (sk) rfl⟩
  rintro⟨i,l⟩ ⟨i1,i2,i3⟩
  simp only [] at i1 i2 i3
  (first | refine brLt (fun j1=>?_) (fun j1=>?_) | refine brLe (fun j1=>?_) (fun j1=>?_) | refine brEq (fun j1=>?_) (fun j1=>?_))
  rotate_left
  ·have j1:¬ (i:Int)<2:=j1
   rw [List.drop_eq_nil_of_le (by omega),List.foldlM_nil] at i3
   exact end1 _ rfl rfl (retI (by rw [← i3];rfl))
  have j1:(i:Int)<2:=j1
  have hi:i<ar.length:=by omega
  rw [dropD cd0 hi,List.foldlM_cons] at i3
  have hbx:=bigCs_mem hb4 (getD_memL cd0 hi)
  have hcell:=ccell hi
  rcases hx:ar.getD i cd0 with ⟨o',n',rl',vl',rf',st',ar'⟩
  rw [hx] at i3 hbx hcell
  refine⟨_,⟨by omega,(Cd.mk o' n' rl' vl' rf' st' ar').cells,hcell,rfl⟩,?_⟩
  refine⟨((p+1:Nat):Int),wrap_i64 (by omega) (by omega),?_⟩
  have hrec:=ih (.mk o' n' rl' vl' rf' st' ar') l (p+1) hbx (by omega) (by omega)
  rcases hv:condV d (.mk o' n' rl' vl' rf' st' ar') l with _ | l2
  ·rw [hv] at hrec i3
   refine hrec.eq rfl ?_
   refine And.intro (fun _=>?_) (fun h=>absurd (show(-1:Int)<0 by decide) h)
   exact end1 _ rfl rfl (retI (by rw [← i3];rfl))
  ·have hle:=condV_le _ _ _ _ hv
   rw [hv] at hrec i3
   refine hrec.eq rfl ?_
   refine And.intro (fun h=>absurd (show(l2:Int)<0 from h) (by omega)) (fun _=>?_)
   refine⟨_,wrap_i64 (by omega) (by omega),?_⟩
   exact⟨(i+1,l2),⟨by simp only [];omega,by simp only [];omega,i3⟩,ent_of [] [] [] rfl (sk) (sk) rfl,by show ar.length - (i+1)<ar.length - i;omega⟩
 have o8:¬ op=8:=o8
 (first | refine brLt (fun o9=>?_) (fun o9=>?_) | refine brLe (fun o9=>?_) (fun o9=>?_) | refine brEq (fun o9=>?_) (fun o9=>?_))
 ·have o9:op=9:=o9
  by_cases hk:ar.length=2
  rotate_left
  ·refine And.intro (fun h=>absurd (show((ar.map Cd.cells).length:Int)=2 from h) (by rw [List.length_map];omega)) (fun _=>?_)
   exact end1 _ rfl rfl (retI (by rw [hno (by simp [headB,argsN, *])];rfl))
  refine And.intro (fun _=>?_) (fun h=>absurd (show((ar.map Cd.cells).length:Int)=2 by rw [List.length_map];omega) h)
  refine And.intro (fun h=>absurd (show(2:Int)=0 from h) (by decide)) (fun _=>?_)
  refine And.intro (fun r1=>?_) (fun r1=>?_)
  rotate_left
  ·have r1:¬ n=0:=r1
   exact end1 _ rfl rfl (retI (by rw [hno (by simp [headB,argsN,plainB, *])];rfl))
  have r1:n=0:=r1
  refine And.intro (fun r2=>?_) (fun r2=>?_)
  rotate_left
  ·have r2:¬ rel=0:=r2
   exact end1 _ rfl rfl (retI (by rw [hno (by simp [headB,argsN,plainB, *])];rfl))
  have r2:rel=0:=r2
  refine And.intro (fun r3=>?_) (fun r3=>?_)
  rotate_left
  ·have r3:¬ val=0:=r3
   exact end1 _ rfl rfl (retI (by rw [hno (by simp [headB,argsN,plainB, *])];rfl))
  have r3:val=0:=r3
  refine⟨⟨by kernel_rfl,by kernel_rfl⟩,fun r4=>?_,fun r4=>?_⟩
  rotate_left
  ·have r4:¬ r=rf0:=fun e=>r4 (by rw [e];rfl)
   exact end1 _ rfl rfl (retI (by rw [hno (by simp [headB,argsN,plainB, *])];rfl))
  have r4:r=rf0:=rf_eq (by first | exact r4 | (injection r4))
  refine And.intro (fun r5=>?_) (fun r5=>?_)
  rotate_left
  ·have r5:¬ ((st.map i64).length:Int)=0:=r5
   have r5:¬ st=[]:=fun e=>r5 (by rw [e];rfl)
   exact end1 _ rfl rfl (retI (by rw [hno (by simp [headB,argsN,plainB, *])];rfl))
  have r5:((st.map i64).length:Int)=0:=r5
  have r5:st=[]:=by rw [List.length_map] at r5;exact List.length_eq_zero_iff.1 (by omega)
  have hy:=hyes (by simp [headB,argsN,plainB, *])
  refine⟨(m:Int),by rw [show((m+1:Nat):Int) - 1=(m:Int) by omega];exact wrap_i64 (by omega) (by omega),?_⟩
  refine⟨Nat × Nat,fun x=>[(1, .p (i64 x.2)),(2, .p (i64 p)),(3, .ptr 0 0 0),(7, .p (i64 2)),(8, .p (i64 x.1))],fun x=>⟨1,[(0,cO [.p (i64 op), .p (i64 n), .p (i64 rel), .p (i64 val), .p (.str r.name), .p (i64 r.mode), .p (.str r.plate), .p (i64 r.n), .p (ints st), .p (cds ar)])]⟩,fun x=>x.1≤ar.length∧x.2≤1000∧(ar.drop x.1).foldlM (fun l c=>condV d c l) x.2=R,fun x=>ar.length - x.1,?_,?_⟩
  ·exact⟨(0,m),⟨Nat.zero_le _,by simp only [];omega,hy⟩,ent_of [] [] [] rfl (sk) (sk) rfl⟩
  rintro⟨i,l⟩ ⟨i1,i2,i3⟩
  simp only [] at i1 i2 i3
  (first | refine brLt (fun j1=>?_) (fun j1=>?_) | refine brLe (fun j1=>?_) (fun j1=>?_) | refine brEq (fun j1=>?_) (fun j1=>?_))
  rotate_left
  ·have j1:¬ (i:Int)<2:=j1
   rw [List.drop_eq_nil_of_le (by omega),List.foldlM_nil] at i3
   exact end1 _ rfl rfl (retI (by rw [← i3];rfl))
  have j1:(i:Int)<2:=j1
  have hi:i<ar.length:=by omega
  rw [dropD cd0 hi,List.foldlM_cons] at i3
  have hbx:=bigCs_mem hb4 (getD_memL cd0 hi)
  have hcell:=ccell hi
  rcases hx:ar.getD i cd0 with ⟨o',n',rl',vl',rf',st',ar'⟩
  rw [hx] at i3 hbx hcell
  refine⟨_,⟨by omega,(Cd.mk o' n' rl' vl' rf' st' ar').cells,hcell,rfl⟩,?_⟩
  refine⟨((p+1:Nat):Int),wrap_i64 (by omega) (by omega),?_⟩
  have hrec:=ih (.mk o' n' rl' vl' rf' st' ar') l (p+1) hbx (by omega) (by omega)
  rcases hv:condV d (.mk o' n' rl' vl' rf' st' ar') l with _ | l2
  ·rw [hv] at hrec i3
   refine hrec.eq rfl ?_
   refine And.intro (fun _=>?_) (fun h=>absurd (show(-1:Int)<0 by decide) h)
   exact end1 _ rfl rfl (retI (by rw [← i3];rfl))
  ·have hle:=condV_le _ _ _ _ hv
   rw [hv] at hrec i3
   refine hrec.eq rfl ?_
   refine And.intro (fun h=>absurd (show(l2:Int)<0 from h) (by omega)) (fun _=>?_)
   refine⟨_,wrap_i64 (by omega) (by omega),?_⟩
   exact⟨(i+1,l2),⟨by simp only [];omega,by simp only [];omega,i3⟩,ent_of [] [] [] rfl (sk) (sk) rfl,by show ar.length - (i+1)<ar.length - i;omega⟩
 have o9:¬ op=9:=o9
 by_cases hk:ar.length=0
 rotate_left
 ·refine And.intro (fun h=>absurd (show((ar.map Cd.cells).length:Int)=0 from h) (by rw [List.length_map];omega)) (fun _=>?_)
  exact end1 _ rfl rfl (retI (by rw [hno (by simp [headB,argsN, *])];rfl))
 refine And.intro (fun _=>?_) (fun h=>absurd (show((ar.map Cd.cells).length:Int)=0 by rw [List.length_map];omega) h)
 refine And.intro (fun _=>?_) (fun h=>absurd rfl h)
 by_cases ht:leafB op n rel val r st=true
 rotate_left
 ·rw [Bool.not_eq_true] at ht
  rw [ht] at hT
  refine hT.eq rfl ?_
  exact end1 _ rfl rfl (retI (by rw [hno (by simp [headB,argsN, *])];rfl))
 rw [ht] at hT
 refine hT.eq rfl ?_
 have hy:=hyes (by simp [headB,argsN, *])
 have har:ar=[]:=List.length_eq_zero_iff.1 hk
 rw [har,List.foldlM_nil] at hy
 refine⟨(m:Int),by rw [show((m+1:Nat):Int) - 1=(m:Int) by omega];exact wrap_i64 (by omega) (by omega),?_⟩
 exact end1 _ rfl rfl (retI (by rw [← hy];rfl))
theorem count_all:∀ d,d≤8→CtOK d
 | 0,_=>by
  rintro⟨op,n,rel,val,r,st,ar⟩ left p hb hl hp9
  refine pure_of_vc Tryz.func162 rfl rfl rfl ?_
  (first | refine brLt (fun h1=>?_) (fun h1=>?_) | refine brLe (fun h1=>?_) (fun h1=>?_) | refine brEq (fun h1=>?_) (fun h1=>?_))
  ·exact end1 _ rfl rfl rfl
  ·refine And.intro (fun _=>?_) (fun h=>absurd (show(8:Int)<(p:Nat) by omega) h)
   exact end1 _ rfl rfl rfl
 | d+1,h=>count_s d (count_all d (by omega))
theorem none_c (op n rel val:Int) (r:Rf) (st:List Int) (ar:List Cd) (_hs:st.length≤9223372036854775807) (_ha:ar.length≤9223372036854775807):Pure cx 161 [(Cd.mk op n rel val r st ar).pv] (·=.ret [.bool (noneB (.mk op n rel val r st ar))]):=by
 have epv:(Cd.mk op n rel val r st ar).pv=.agg [i64 op,i64 n,i64 rel,i64 val, .str r.name,i64 r.mode, .str r.plate,i64 r.n,ints st,cds ar]:=by
  show PV.agg [i64 op,i64 n,i64 rel,i64 val, .str r.name,i64 r.mode, .str r.plate,i64 r.n,ints st, .lsts 10 (cellsL ar)]=_
  rw [cellsL_map]
 rw [epv]
 refine pure_of_vc Tryz.func161 rfl rfl rfl ?_
 (first | refine brLt (fun h0=>?_) (fun h0=>?_) | refine brLe (fun h0=>?_) (fun h0=>?_) | refine brEq (fun h0=>?_) (fun h0=>?_))
 rotate_left
 ·have h0:¬ op=0:=h0
  exact end1 _ rfl rfl (retB (by simp [noneB,plainB, *]))
 have h0:op=0:=h0
 (first | refine brLt (fun h1=>?_) (fun h1=>?_) | refine brLe (fun h1=>?_) (fun h1=>?_) | refine brEq (fun h1=>?_) (fun h1=>?_))
 rotate_left
 ·have h1:¬ n=0:=h1
  exact end1 _ rfl rfl (retB (by simp [noneB,plainB, *]))
 have h1:n=0:=h1
 (first | refine brLt (fun h2=>?_) (fun h2=>?_) | refine brLe (fun h2=>?_) (fun h2=>?_) | refine brEq (fun h2=>?_) (fun h2=>?_))
 rotate_left
 ·have h2:¬ rel=0:=h2
  exact end1 _ rfl rfl (retB (by simp [noneB,plainB, *]))
 have h2:rel=0:=h2
 (first | refine brLt (fun h3=>?_) (fun h3=>?_) | refine brLe (fun h3=>?_) (fun h3=>?_) | refine brEq (fun h3=>?_) (fun h3=>?_))
 rotate_left
 ·have h3:¬ val=0:=h3
  exact end1 _ rfl rfl (retB (by simp [noneB,plainB, *]))
 have h3:val=0:=h3
 refine⟨⟨by kernel_rfl,by kernel_rfl⟩,fun h4=>?_,fun h4=>?_⟩
 rotate_left
 ·have h4:¬ r=rf0:=fun e=>h4 (by rw [e];rfl)
  exact end1 _ rfl rfl (retB (by simp [noneB,plainB, *]))
 have h4:r=rf0:=rf_eq (by first | exact h4 | (injection h4))
 (first | refine brLt (fun h5=>?_) (fun h5=>?_) | refine brLe (fun h5=>?_) (fun h5=>?_) | refine brEq (fun h5=>?_) (fun h5=>?_))
 rotate_left
 ·have h5:¬ ((st.map i64).length:Int)=0:=h5
  have h5:¬ st=[]:=fun e=>h5 (by rw [e];rfl)
  exact end1 _ rfl rfl (retB (by simp [noneB,plainB, *]))
 have h5:((st.map i64).length:Int)=0:=h5
 have h5:st=[]:=by rw [List.length_map] at h5;exact List.length_eq_zero_iff.1 (by omega)
 (first | refine brLt (fun h6=>?_) (fun h6=>?_) | refine brLe (fun h6=>?_) (fun h6=>?_) | refine brEq (fun h6=>?_) (fun h6=>?_))
 ·have h6:((ar.map Cd.cells).length:Int)=0:=h6
  have h6:ar=[]:=by rw [List.length_map] at h6;exact List.length_eq_zero_iff.1 (by omega)
  exact end1 _ rfl rfl (retB (by simp [noneB,plainB, *]))
 ·have h6:¬ ((ar.map Cd.cells).length:Int)=0:=h6
  have h6:¬ ar=[]:=fun e=>h6 (by rw [e];rfl)
  exact end1 _ rfl rfl (retB (by simp [noneB,plainB, *]))
set_option maxHeartbeats 4000000
theorem rcases_c (l:List Cs) (hb:BigL l):Pure cx 119 [css l] (·=.ret [.bool (casesB l)]):=by
 refine pure_of_vc Tryz.func119 rfl rfl rfl ?_
 have hll:=hb.len
 have hm:(l.map Cs.cells).length=l.length:=List.length_map ..
 (first | refine brLt (fun h1=>?_) (fun h1=>?_) | refine brLe (fun h1=>?_) (fun h1=>?_) | refine brEq (fun h1=>?_) (fun h1=>?_))
 ·have h1:((l.map Cs.cells).length:Int)<1:=h1
  rw [hm] at h1
  exact end1 _ rfl rfl (retB (by rw [casesB,decide_eq_false (by omega)];rfl))
 have h1:¬ ((l.map Cs.cells).length:Int)<1:=h1
 rw [hm] at h1
 (first | refine brLt (fun h2=>?_) (fun h2=>?_) | refine brLe (fun h2=>?_) (fun h2=>?_) | refine brEq (fun h2=>?_) (fun h2=>?_))
 ·have h2:(12:Int)<((l.map Cs.cells).length:Nat):=h2
  rw [hm] at h2
  exact end1 _ rfl rfl (retB (by rw [casesB,decide_eq_false (show ¬ l.length≤12 by omega),Bool.and_false];rfl))
 have h2:¬ (12:Int)<((l.map Cs.cells).length:Nat):=h2
 rw [hm] at h2
 have hB0:casesB l=casesT (l.drop 0):=by rw [casesB,decide_eq_true (show 1≤l.length by omega),decide_eq_true (show l.length≤12 by omega)];rfl
 refine⟨Nat,fun i=>[(0, .p (css l)),(3, .p (i64 i))],fun _=>⟨0,[]⟩,fun i=>i≤l.length∧casesB l=casesT (l.drop i),fun i=>l.length - i,?_,?_⟩
 ·exact⟨0,⟨Nat.zero_le _,hB0⟩,ent0 rfl ⟨rfl,rfl,trivial⟩ trivial rfl⟩
 rintro i ⟨i0,i2⟩
 clear hB0
 (first | refine brLt (fun j1=>?_) (fun j1=>?_) | refine brLe (fun j1=>?_) (fun j1=>?_) | refine brEq (fun j1=>?_) (fun j1=>?_))
 rotate_left
 ·have j1:¬ (i:Int)<((l.map Cs.cells).length:Nat):=j1
  rw [hm] at j1
  rw [List.drop_eq_nil_of_le (by omega),casesT] at i2
  exact end1 _ rfl rfl (retB i2.symm)
 have j1:(i:Int)<((l.map Cs.cells).length:Nat):=j1
 rw [hm] at j1
 have i1:i<l.length:=by omega
 have hmem:=getD_memL cs0 i1
 have hbc:=hb.cond _ hmem
 have hbn:=hb.nums _ hmem
 have hcell:=scell i1
 have hstep:=fun h=>casesT_step (l:=l) (i:=i) h
 have hlast:=fun h=>casesT_last (l:=l) (i:=i) h
 rcases hx:l.getD i cs0 with ⟨⟨op,n,rel,val,r,st,ar⟩,nums⟩
 rw [hx] at hbc hbn hcell hstep hlast
 simp only [] at hbc hbn hstep hlast
 have hno:numsB nums=false→casesB l=false:=fun h=>by
  rw [i2]
  rcases Nat.lt_or_ge (i+1) l.length with h3 | h3
  ·rw [hstep h3,h];rfl
  ·rw [hlast (by omega),h];rfl
 have hnm:(nums.map i64).length=nums.length:=List.length_map ..
 refine⟨_,⟨by omega,(⟨.mk op n rel val r st ar,nums⟩:Cs).cells,hcell,rfl⟩,?_⟩
 (first | refine brLt (fun j2=>?_) (fun j2=>?_) | refine brLe (fun j2=>?_) (fun j2=>?_) | refine brEq (fun j2=>?_) (fun j2=>?_))
 ·have j2:((nums.map i64).length:Int)<1:=j2
  rw [hnm] at j2
  exact end1 _ rfl rfl (retB (hno (by rw [numsB,decide_eq_false (by omega)];rfl)).symm)
 have j2:¬ ((nums.map i64).length:Int)<1:=j2
 rw [hnm] at j2
 refine⟨_,⟨by omega,(⟨.mk op n rel val r st ar,nums⟩:Cs).cells,hcell,rfl⟩,?_⟩
 (first | refine brLt (fun j3=>?_) (fun j3=>?_) | refine brLe (fun j3=>?_) (fun j3=>?_) | refine brEq (fun j3=>?_) (fun j3=>?_))
 ·have j3:(8:Int)<((nums.map i64).length:Nat):=j3
  rw [hnm] at j3
  exact end1 _ rfl rfl (retB (hno (by rw [numsB,decide_eq_false (show ¬ nums.length≤8 by omega),Bool.and_false];rfl)).symm)
 have j3:¬ (8:Int)<((nums.map i64).length:Nat):=j3
 rw [hnm] at j3
 refine⟨Nat,fun k=>[(0, .p (css l)),(3, .p (i64 i)),(4, .p (i64 k))],fun _=>⟨0,[]⟩,fun k=>k≤nums.length∧∀ x∈nums.take k,wgtB x=true,fun k=>nums.length - k,?_,?_⟩
 ·exact⟨0,⟨Nat.zero_le _,by simp⟩,ent0 rfl ⟨rfl,rfl,rfl,trivial⟩ trivial rfl⟩
 rintro k ⟨k1,k2⟩
 refine⟨_,⟨by omega,(⟨.mk op n rel val r st ar,nums⟩:Cs).cells,hcell,rfl⟩,?_⟩
 (first | refine brLt (fun m1=>?_) (fun m1=>?_) | refine brLe (fun m1=>?_) (fun m1=>?_) | refine brEq (fun m1=>?_) (fun m1=>?_))
 ·have m1:(k:Int)<((nums.map i64).length:Nat):=m1
  rw [hnm] at m1
  have hk:k<nums.length:=by omega
  have bad:wgtB (nums.getD k 0)=false→casesB l=false:=fun h=>hno (by rw [numsB,all_no 0 hk h,Bool.and_false])
  refine⟨_,⟨by omega,(⟨.mk op n rel val r st ar,nums⟩:Cs).cells,hcell,rfl⟩,?_⟩
  refine⟨_,⟨by omega,i64 (nums.getD k 0),icell hk,rfl⟩,?_⟩
  (first | refine brLt (fun m2=>?_) (fun m2=>?_) | refine brLe (fun m2=>?_) (fun m2=>?_) | refine brEq (fun m2=>?_) (fun m2=>?_))
  ·have m2:nums.getD k 0 < -9999:=m2
   exact end1 _ rfl rfl (retB (bad (by rw [wgtB,decide_eq_false (by omega)];rfl)).symm)
  have m2:¬ nums.getD k 0 < -9999:=m2
  refine⟨_,⟨by omega,(⟨.mk op n rel val r st ar,nums⟩:Cs).cells,hcell,rfl⟩,?_⟩
  refine⟨_,⟨by omega,i64 (nums.getD k 0),icell hk,rfl⟩,?_⟩
  (first | refine brLt (fun m3=>?_) (fun m3=>?_) | refine brLe (fun m3=>?_) (fun m3=>?_) | refine brEq (fun m3=>?_) (fun m3=>?_))
  ·have m3:(9999:Int)<nums.getD k 0:=m3
   exact end1 _ rfl rfl (retB (bad (by rw [wgtB,decide_eq_false (show ¬ nums.getD k 0≤9999 by omega),Bool.and_false])).symm)
  have m3:¬ (9999:Int)<nums.getD k 0:=m3
  refine⟨_,wrap_i64 (by omega) (by omega),?_⟩
  refine⟨k+1,⟨by omega,fun x hx=>?_⟩,ent0 rfl ⟨rfl,rfl,rfl,trivial⟩ trivial rfl,by show nums.length - (k+1)<nums.length - k;omega⟩
  rw [take_succ_getD 0 hk] at hx
  rcases List.mem_append.1 hx with hx | hx
  ·exact k2 x hx
  ·rw [List.mem_singleton.1 hx,wgtB,decide_eq_true (by omega),decide_eq_true (by omega)];rfl
 have m1:¬ (k:Int)<((nums.map i64).length:Nat):=m1
 rw [hnm] at m1
 have hnums:numsB nums=true:=by
  have:nums.all wgtB=true:=by
   rw [List.all_eq_true]
   rw [take_all (by omega)] at k2
   exact k2
  rw [numsB,this,decide_eq_true (by omega),decide_eq_true (by omega)];rfl
 refine⟨((l.length - 1:Nat):Int),by show _=IntKind.i64.wrap (((l.map Cs.cells).length:Int) - 1);rw [hm,show(l.length:Int) - 1=((l.length - 1:Nat):Int) by omega];exact wrap_i64 (by omega) (by omega),?_⟩
 (first | refine brLt (fun m4=>?_) (fun m4=>?_) | refine brLe (fun m4=>?_) (fun m4=>?_) | refine brEq (fun m4=>?_) (fun m4=>?_))
 ·have m4:(i:Int)=((l.length - 1:Nat):Int):=m4
  have hT:=hlast (by omega)
  rw [← i2,hnums,Bool.true_and] at hT
  simp only [BigC] at hbc
  have hP:=none_c op n rel val r st ar hbc.2.1 hbc.2.2.1
  refine⟨_,⟨by omega,(⟨.mk op n rel val r st ar,nums⟩:Cs).cells,hcell,rfl⟩,?_⟩
  rw [← hT] at hP
  by_cases p2:casesB l=true
  rotate_left
  ·rw [Bool.not_eq_true] at p2
   rw [p2] at hP
   refine hP.eq rfl ?_
   exact end1 _ rfl rfl (retB p2.symm)
  rw [p2] at hP
  refine hP.eq rfl ?_
  refine⟨_,wrap_i64 (by omega) (by omega),?_⟩
  exact⟨i+1,⟨by omega,by rw [p2,List.drop_eq_nil_of_le (by omega)];rfl⟩,ent0 rfl ⟨rfl,rfl,trivial⟩ trivial rfl,by show l.length - (i+1)<l.length - i;omega⟩
 have m4:¬ (i:Int)=((l.length - 1:Nat):Int):=m4
 have hT:=hstep (by omega)
 rw [← i2,hnums,Bool.true_and] at hT
 have hC:=count_all 8 (Nat.le_refl _) (.mk op n rel val r st ar) 30 1 hbc (by omega) (by omega)
 refine⟨_,⟨by omega,(⟨.mk op n rel val r st ar,nums⟩:Cs).cells,hcell,rfl⟩,?_⟩
 rcases hv:condV 8 (.mk op n rel val r st ar) 30 with _ | k2
 ·rw [hv] at hC hT
  refine hC.eq rfl ?_
  refine And.intro (fun _=>?_) (fun h=>absurd (show(-1:Int)<0 by decide) h)
  exact end1 _ rfl rfl (retB (by rw [hT];rfl))
 ·rw [hv] at hC hT
  refine hC.eq rfl ?_
  refine And.intro (fun h=>absurd (show(k2:Int)<0 from h) (by omega)) (fun _=>?_)
  refine⟨_,wrap_i64 (by omega) (by omega),?_⟩
  exact⟨i+1,⟨by omega,by rw [hT];rfl⟩,ent0 rfl ⟨rfl,rfl,trivial⟩ trivial rfl,by show l.length - (i+1)<l.length - i;omega⟩
theorem rrefs_c (l:List Rf) (hl:l.length≤9223372036854775807) (hb:∀ r∈l,BigR r):Pure cx 117 [rfl_ l] (·=.ret [.bool (decide (l.length≤8) && l.all refB)]):=by
 refine pure_of_vc Tryz.func117 rfl rfl rfl ?_
 have hm:(l.map Rf.cells).length=l.length:=List.length_map ..
 refine⟨Nat,fun k=>[(0, .p (rfl_ l)),(3, .p (i64 k))],fun _=>⟨0,[]⟩,fun k=>k≤l.length∧∀ x∈l.take k,refB x=true,fun k=>l.length - k,?_,?_⟩
 ·exact⟨0,⟨Nat.zero_le _,by simp⟩,ent0 rfl ⟨rfl,rfl,trivial⟩ trivial rfl⟩
 rintro k ⟨k1,k2⟩
 (first | refine brLt (fun m1=>?_) (fun m1=>?_) | refine brLe (fun m1=>?_) (fun m1=>?_) | refine brEq (fun m1=>?_) (fun m1=>?_))
 ·have m1:(k:Int)<((l.map Rf.cells).length:Nat):=m1
  rw [hm] at m1
  have hk:k<l.length:=by omega
  refine⟨_,⟨by omega,(l.getD k rf0).cells,rcell hk,rfl⟩,?_⟩
  have hR:=rref_c (l.getD k rf0) (hb _ (getD_memL rf0 hk))
  by_cases r1:refB (l.getD k rf0)=true
  rotate_left
  ·rw [Bool.not_eq_true] at r1
   rw [r1] at hR
   refine hR.eq rfl ?_
   exact end1 _ rfl rfl (retB (by rw [all_no rf0 hk r1,Bool.and_false]))
  rw [r1] at hR
  refine hR.eq rfl ?_
  refine⟨_,wrap_i64 (by omega) (by omega),?_⟩
  refine⟨k+1,⟨by omega,fun x hx=>?_⟩,ent0 rfl ⟨rfl,rfl,trivial⟩ trivial rfl,by show l.length - (k+1)<l.length - k;omega⟩
  rw [take_succ_getD rf0 hk] at hx
  rcases List.mem_append.1 hx with hx | hx
  ·exact k2 x hx
  ·rw [List.mem_singleton.1 hx];exact r1
 have m1:¬ (k:Int)<((l.map Rf.cells).length:Nat):=m1
 rw [hm] at m1
 rw [take_all (by omega)] at k2
 have ha:l.all refB=true:=List.all_eq_true.2 k2
 (first | refine brLt (fun m2=>?_) (fun m2=>?_) | refine brLe (fun m2=>?_) (fun m2=>?_) | refine brEq (fun m2=>?_) (fun m2=>?_))
 ·have m2:((l.map Rf.cells).length:Int)≤8:=m2
  rw [hm] at m2
  exact end1 _ rfl rfl (retB (by rw [ha,decide_eq_true (by omega)];rfl))
 ·have m2:¬ ((l.map Rf.cells).length:Int)≤8:=m2
  rw [hm] at m2
  exact end1 _ rfl rfl (retB (by rw [decide_eq_false (by omega)];rfl))
theorem rdecl_c (d:De) (hb:BigD d):Pure cx 74 [d.pv] (·=.ret [.bool (declB d)]):=by
 refine pure_of_vc Tryz.func74 rfl rfl rfl ?_
 have hN:=rnumber_c d.n
 have hF:=rrefs_c d.refs hb.len hb.refs
 have hI:=rName_c d.name hb.name
 have hJ:=rName_c d.plate hb.plate
 have hC:=rcases_c d.cases hb.cases
 have hrl:=hb.len
 have hcl:=hb.cases.len
 clear hb
 by_cases n1:natB d.n=true
 rotate_left
 ·rw [Bool.not_eq_true] at n1
  rw [n1] at hN
  refine hN.eq rfl ?_
  exact end1 _ rfl rfl (retB (by rw [declB,n1];rfl))
 rw [n1] at hN
 refine hN.eq rfl ?_
 by_cases n2:(decide (d.refs.length≤8) && d.refs.all refB)=true
 rotate_left
 ·rw [Bool.not_eq_true] at n2
  rw [n2] at hF
  refine hF.eq rfl ?_
  exact end1 _ rfl rfl (retB (by rw [declB,n1,Bool.true_and,n2];rfl))
 rw [n2] at hF
 refine hF.eq rfl ?_
 have hfin:declB d=kindB d:=by rw [declB,n1,Bool.true_and,n2];rfl
 clear hF hN n1 n2
 refine And.intro (fun q1=>?_) (fun q1=>?_)
 ·have q1:d.plate=[]:=q1
  by_cases p1:nameN d.name=true
  rotate_left
  ·have p1':=p1
   rw [Bool.not_eq_true] at p1
   rw [p1] at hI
   refine hI.eq rfl ?_
   (first | refine brLt (fun o1=>?_) (fun o1=>?_) | refine brLe (fun o1=>?_) (fun o1=>?_) | refine brEq (fun o1=>?_) (fun o1=>?_))
   ·have o1:d.kind=1:=o1
    (first | refine brLt (fun p2=>?_) (fun p2=>?_) | refine brLe (fun p2=>?_) (fun p2=>?_) | refine brEq (fun p2=>?_) (fun p2=>?_))
    rotate_left
    ·have p2:¬ d.name=[]:=p2
     exact end1 _ rfl rfl (retB (by simp [kindB, *]))
    have p2:d.name=[]:=p2
    (first | refine brLt (fun p3=>?_) (fun p3=>?_) | refine brLe (fun p3=>?_) (fun p3=>?_) | refine brEq (fun p3=>?_) (fun p3=>?_))
    rotate_left
    ·have p3:¬ ((d.refs.map Rf.cells).length:Int)=0:=p3
     have p3:¬ d.refs=[]:=fun e=>p3 (by rw [e];rfl)
     exact end1 _ rfl rfl (retB (by simp [kindB, *]))
    have p3:((d.refs.map Rf.cells).length:Int)=0:=p3
    have p3:d.refs=[]:=by rw [List.length_map] at p3;exact List.length_eq_zero_iff.1 (by omega)
    (first | refine brLt (fun p4=>?_) (fun p4=>?_) | refine brLe (fun p4=>?_) (fun p4=>?_) | refine brEq (fun p4=>?_) (fun p4=>?_))
    rotate_left
    ·have p4:¬ ((d.cases.map Cs.cells).length:Int)=0:=p4
     have p4:¬ d.cases=[]:=fun e=>p4 (by rw [e];rfl)
     exact end1 _ rfl rfl (retB (by simp [kindB, *]))
    have p4:((d.cases.map Cs.cells).length:Int)=0:=p4
    have p4:d.cases=[]:=by rw [List.length_map] at p4;exact List.length_eq_zero_iff.1 (by omega)
    exact end1 _ rfl rfl (retB (by simp [kindB, *]))
   have o1:¬ d.kind=1:=o1
   (first | refine brLt (fun o2=>?_) (fun o2=>?_) | refine brLe (fun o2=>?_) (fun o2=>?_) | refine brEq (fun o2=>?_) (fun o2=>?_))
   ·have o2:d.kind=2:=o2
    exact end1 _ rfl rfl (retB (by simp [kindB, *]))
   have o2:¬ d.kind=2:=o2
   (first | refine brLt (fun o3=>?_) (fun o3=>?_) | refine brLe (fun o3=>?_) (fun o3=>?_) | refine brEq (fun o3=>?_) (fun o3=>?_))
   ·have o3:d.kind=3:=o3
    exact end1 _ rfl rfl (retB (by simp [kindB, *]))
   have o3:¬ d.kind=3:=o3
   (first | refine brLt (fun o4=>?_) (fun o4=>?_) | refine brLe (fun o4=>?_) (fun o4=>?_) | refine brEq (fun o4=>?_) (fun o4=>?_))
   ·have o4:d.kind=4:=o4
    exact end1 _ rfl rfl (retB (by simp [kindB, *]))
   have o4:¬ d.kind=4:=o4
   (first | refine brLt (fun o5=>?_) (fun o5=>?_) | refine brLe (fun o5=>?_) (fun o5=>?_) | refine brEq (fun o5=>?_) (fun o5=>?_))
   ·have o5:d.kind=5:=o5
    (first | refine brLt (fun p2=>?_) (fun p2=>?_) | refine brLe (fun p2=>?_) (fun p2=>?_) | refine brEq (fun p2=>?_) (fun p2=>?_))
    rotate_left
    ·have p2:¬ d.name=[]:=p2
     exact end1 _ rfl rfl (retB (by simp [kindB, *]))
    have p2:d.name=[]:=p2
    (first | refine brLt (fun p3=>?_) (fun p3=>?_) | refine brLe (fun p3=>?_) (fun p3=>?_) | refine brEq (fun p3=>?_) (fun p3=>?_))
    rotate_left
    ·have p3:¬ d.n=0:=p3
     exact end1 _ rfl rfl (retB (by simp [kindB, *]))
    have p3:d.n=0:=p3
    refine hC.eq rfl ?_
    exact end1 _ rfl rfl (retB (by simp [kindB, *]))
   have o5:¬ d.kind=5:=o5
   exact end1 _ rfl rfl (retB (by simp [kindB, *]))
  rw [p1] at hI
  refine hI.eq rfl ?_
  (first | refine brLt (fun o1=>?_) (fun o1=>?_) | refine brLe (fun o1=>?_) (fun o1=>?_) | refine brEq (fun o1=>?_) (fun o1=>?_))
  ·have o1:d.kind=1:=o1
   (first | refine brLt (fun p2=>?_) (fun p2=>?_) | refine brLe (fun p2=>?_) (fun p2=>?_) | refine brEq (fun p2=>?_) (fun p2=>?_))
   rotate_left
   ·have p2:¬ d.name=[]:=p2
    exact end1 _ rfl rfl (retB (by simp [kindB, *]))
   have p2:d.name=[]:=p2
   (first | refine brLt (fun p3=>?_) (fun p3=>?_) | refine brLe (fun p3=>?_) (fun p3=>?_) | refine brEq (fun p3=>?_) (fun p3=>?_))
   rotate_left
   ·have p3:¬ ((d.refs.map Rf.cells).length:Int)=0:=p3
    have p3:¬ d.refs=[]:=fun e=>p3 (by rw [e];rfl)
    exact end1 _ rfl rfl (retB (by simp [kindB, *]))
   have p3:((d.refs.map Rf.cells).length:Int)=0:=p3
   have p3:d.refs=[]:=by rw [List.length_map] at p3;exact List.length_eq_zero_iff.1 (by omega)
   (first | refine brLt (fun p4=>?_) (fun p4=>?_) | refine brLe (fun p4=>?_) (fun p4=>?_) | refine brEq (fun p4=>?_) (fun p4=>?_))
   rotate_left
   ·have p4:¬ ((d.cases.map Cs.cells).length:Int)=0:=p4
    have p4:¬ d.cases=[]:=fun e=>p4 (by rw [e];rfl)
    exact end1 _ rfl rfl (retB (by simp [kindB, *]))
   have p4:((d.cases.map Cs.cells).length:Int)=0:=p4
   have p4:d.cases=[]:=by rw [List.length_map] at p4;exact List.length_eq_zero_iff.1 (by omega)
   exact end1 _ rfl rfl (retB (by simp [kindB, *]))
  have o1:¬ d.kind=1:=o1
  (first | refine brLt (fun o2=>?_) (fun o2=>?_) | refine brLe (fun o2=>?_) (fun o2=>?_) | refine brEq (fun o2=>?_) (fun o2=>?_))
  ·have o2:d.kind=2:=o2
   (first | refine brLt (fun p3=>?_) (fun p3=>?_) | refine brLe (fun p3=>?_) (fun p3=>?_) | refine brEq (fun p3=>?_) (fun p3=>?_))
   rotate_left
   ·have p3:¬ ((d.refs.map Rf.cells).length:Int)=0:=p3
    have p3:¬ d.refs=[]:=fun e=>p3 (by rw [e];rfl)
    exact end1 _ rfl rfl (retB (by simp [kindB, *]))
   have p3:((d.refs.map Rf.cells).length:Int)=0:=p3
   have p3:d.refs=[]:=by rw [List.length_map] at p3;exact List.length_eq_zero_iff.1 (by omega)
   (first | refine brLt (fun p4=>?_) (fun p4=>?_) | refine brLe (fun p4=>?_) (fun p4=>?_) | refine brEq (fun p4=>?_) (fun p4=>?_))
   rotate_left
   ·have p4:¬ ((d.cases.map Cs.cells).length:Int)=0:=p4
    have p4:¬ d.cases=[]:=fun e=>p4 (by rw [e];rfl)
    exact end1 _ rfl rfl (retB (by simp [kindB, *]))
   have p4:((d.cases.map Cs.cells).length:Int)=0:=p4
   have p4:d.cases=[]:=by rw [List.length_map] at p4;exact List.length_eq_zero_iff.1 (by omega)
   exact end1 _ rfl rfl (retB (by simp [kindB, *]))
  have o2:¬ d.kind=2:=o2
  (first | refine brLt (fun o3=>?_) (fun o3=>?_) | refine brLe (fun o3=>?_) (fun o3=>?_) | refine brEq (fun o3=>?_) (fun o3=>?_))
  ·have o3:d.kind=3:=o3
   refine hC.eq rfl ?_
   exact end1 _ rfl rfl (retB (by simp [kindB, *]))
  have o3:¬ d.kind=3:=o3
  (first | refine brLt (fun o4=>?_) (fun o4=>?_) | refine brLe (fun o4=>?_) (fun o4=>?_) | refine brEq (fun o4=>?_) (fun o4=>?_))
  ·have o4:d.kind=4:=o4
   (first | refine brLt (fun p4=>?_) (fun p4=>?_) | refine brLe (fun p4=>?_) (fun p4=>?_) | refine brEq (fun p4=>?_) (fun p4=>?_))
   rotate_left
   ·have p4:¬ ((d.cases.map Cs.cells).length:Int)=0:=p4
    have p4:¬ d.cases=[]:=fun e=>p4 (by rw [e];rfl)
    exact end1 _ rfl rfl (retB (by simp [kindB, *]))
   have p4:((d.cases.map Cs.cells).length:Int)=0:=p4
   have p4:d.cases=[]:=by rw [List.length_map] at p4;exact List.length_eq_zero_iff.1 (by omega)
   exact end1 _ rfl rfl (retB (by simp [kindB, *]))
  have o4:¬ d.kind=4:=o4
  (first | refine brLt (fun o5=>?_) (fun o5=>?_) | refine brLe (fun o5=>?_) (fun o5=>?_) | refine brEq (fun o5=>?_) (fun o5=>?_))
  ·have o5:d.kind=5:=o5
   (first | refine brLt (fun p2=>?_) (fun p2=>?_) | refine brLe (fun p2=>?_) (fun p2=>?_) | refine brEq (fun p2=>?_) (fun p2=>?_))
   rotate_left
   ·have p2:¬ d.name=[]:=p2
    exact end1 _ rfl rfl (retB (by simp [kindB, *]))
   have p2:d.name=[]:=p2
   (first | refine brLt (fun p3=>?_) (fun p3=>?_) | refine brLe (fun p3=>?_) (fun p3=>?_) | refine brEq (fun p3=>?_) (fun p3=>?_))
   rotate_left
   ·have p3:¬ d.n=0:=p3
    exact end1 _ rfl rfl (retB (by simp [kindB, *]))
   have p3:d.n=0:=p3
   refine hC.eq rfl ?_
   exact end1 _ rfl rfl (retB (by simp [kindB, *]))
  have o5:¬ d.kind=5:=o5
  exact end1 _ rfl rfl (retB (by simp [kindB, *]))
 have q1:¬ d.plate=[]:=q1
 refine And.intro (fun q2=>?_) (fun q2=>?_)
 rotate_left
 ·have q2:¬ d.kind=3:=q2
  exact end1 _ rfl rfl (retB (by simp [kindB, *]))
 have q2:d.kind=3:=q2
 by_cases q3:nameN d.plate=true
 rotate_left
 ·rw [Bool.not_eq_true] at q3
  rw [q3] at hJ
  refine hJ.eq rfl ?_
  exact end1 _ rfl rfl (retB (by simp [kindB, *]))
 rw [q3] at hJ
 refine hJ.eq rfl ?_
 by_cases p1:nameN d.name=true
 rotate_left
 ·rw [Bool.not_eq_true] at p1
  rw [p1] at hI
  refine hI.eq rfl ?_
  refine And.intro (fun h=>absurd (show d.kind=1 from h) (by omega)) (fun _=>?_)
  refine And.intro (fun h=>absurd (show d.kind=2 from h) (by omega)) (fun _=>?_)
  refine And.intro (fun _=>?_) (fun h=>absurd q2 h)
  exact end1 _ rfl rfl (retB (by simp [kindB, *]))
 rw [p1] at hI
 refine hI.eq rfl ?_
 refine And.intro (fun h=>absurd (show d.kind=1 from h) (by omega)) (fun _=>?_)
 refine And.intro (fun h=>absurd (show d.kind=2 from h) (by omega)) (fun _=>?_)
 refine And.intro (fun _=>?_) (fun h=>absurd q2 h)
 refine hC.eq rfl ?_
 exact end1 _ rfl rfl (retB (by simp [kindB, *]))
theorem rOk_c (ds:List De) (hb:BigP ds):Pure cx 46 [srcV ds] (·=.ret [.bool (validB ds)]):=by
 refine pure_of_vc Tryz.func46 rfl rfl rfl ?_
 have hl:=hb.len
 have hm:(ds.map De.cells).length=ds.length:=List.length_map ..
 have hfin:∀ k,k≤ds.length→(30<k∨k=ds.length)→(∀ x∈ds.take k,declB x=true)→validB ds=decide (ds.length≤30):=fun k h1 h2 h3=>by
  rcases h2 with h2 | h2
  ·rw [validB,decide_eq_false (show ¬ ds.length≤30 by omega)];rfl
  ·rw [take_all (by omega)] at h3
   rw [validB,List.all_eq_true.2 h3,Bool.and_true]
 refine⟨Nat,fun k=>[(1, .ptr 0 0 0),(3, .p (i64 k))],fun _=>⟨1,[(0,srO (.p (des ds)))]⟩,fun k=>k≤ds.length∧k≤31∧∀ x∈ds.take k,declB x=true,fun k=>ds.length - k,?_,?_⟩
 ·exact⟨0,⟨Nat.zero_le _,by omega,by simp⟩,ent_of [] [] [] rfl (sk) (sk) rfl⟩
 rintro k ⟨k1,k3,k2⟩
 (first | refine brLt (fun m1=>?_) (fun m1=>?_) | refine brLe (fun m1=>?_) (fun m1=>?_) | refine brEq (fun m1=>?_) (fun m1=>?_))
 ·have m1:(k:Int)<((ds.map De.cells).length:Nat):=m1
  rw [hm] at m1
  have hk:k<ds.length:=by omega
  (first | refine brLt (fun m2=>?_) (fun m2=>?_) | refine brLe (fun m2=>?_) (fun m2=>?_) | refine brEq (fun m2=>?_) (fun m2=>?_))
  ·have m2:(k:Int)≤30:=m2
   refine⟨_,⟨by omega,(ds.getD k de0).cells,decell hk,rfl⟩,?_⟩
   have hR:=rdecl_c (ds.getD k de0) (hb.decl _ (getD_memL de0 hk))
   by_cases r1:declB (ds.getD k de0)=true
   rotate_left
   ·rw [Bool.not_eq_true] at r1
    rw [r1] at hR
    refine hR.eq rfl ?_
    exact end1 _ rfl rfl (retB (by rw [validB,all_no de0 hk r1,Bool.and_false]))
   rw [r1] at hR
   refine hR.eq rfl ?_
   refine⟨_,wrap_i64 (by omega) (by omega),?_⟩
   refine⟨k+1,⟨by omega,by omega,fun x hx=>?_⟩,ent_of [] [] [] rfl (sk) (sk) rfl,by show ds.length - (k+1)<ds.length - k;omega⟩
   rw [take_succ_getD de0 hk] at hx
   rcases List.mem_append.1 hx with hx | hx
   ·exact k2 x hx
   ·rw [List.mem_singleton.1 hx];exact r1
  ·have m2:¬ (k:Int)≤30:=m2
   refine And.intro (fun h=>?_) (fun h=>?_)
   ·have h:((ds.map De.cells).length:Int)≤30:=h
    rw [hm] at h
    omega
   ·exact end1 _ rfl rfl (retB (by rw [hfin k k1 (.inl (by omega)) k2,decide_eq_false (by omega)]))
 ·have m1:¬ (k:Int)<((ds.map De.cells).length:Nat):=m1
  rw [hm] at m1
  refine And.intro (fun h=>?_) (fun h=>?_)
  ·have h:((ds.map De.cells).length:Int)≤30:=h
   rw [hm] at h
   exact end1 _ rfl rfl (retB (by rw [hfin k k1 (.inr (by omega)) k2,decide_eq_true (by omega)]))
  ·have h:¬ ((ds.map De.cells).length:Int)≤30:=h
   rw [hm] at h
   exact end1 _ rfl rfl (retB (by rw [hfin k k1 (.inr (by omega)) k2,decide_eq_false (by omega)]))
noncomputable def cb (p:Prop):Bool:=@decide p (Classical.propDecidable p)
theorem cb_t {p:Prop} (h:p):cb p=true:=by unfold cb;exact @decide_eq_true p (Classical.propDecidable p) h
theorem cb_f {p:Prop} (h:¬ p):cb p=false:=by unfold cb;exact @decide_eq_false p (Classical.propDecidable p) h
theorem take_next {α:Type} {a b:List α} {k:Nat} (d:α) (ha:k<a.length) (hb:k<b.length) (h:a.take k=b.take k) (he:a.getD k d=b.getD k d):a.take (k+1)=b.take (k+1):=by
 rw [take_succ_getD d ha,take_succ_getD d hb,h,he]
theorem take_end {α:Type} {a b:List α} {k:Nat} (hl:a.length=b.length) (hk:¬ k<a.length) (h:a.take k=b.take k):a=b:=by
 rw [take_all (by omega),take_all (by omega)] at h;exact h
theorem sints_c (a b:List Int) (_ha:a.length≤9223372036854775807) (hb:b.length≤9223372036854775807):Pure cx 58 [ints a,ints b] (·=.ret [.bool (cb (a=b))]):=by
 have ha':(a.map i64).length=a.length:=List.length_map ..
 have hb':(b.map i64).length=b.length:=List.length_map ..
 refine pure_of_vc Tryz.func58 rfl rfl rfl ?_
 refine And.intro (fun h1=>?_) (fun h1=>?_)
 rotate_left
 ·have h1:¬ ((a.map i64).length:Int)=((b.map i64).length:Nat):=h1
  rw [ha',hb'] at h1
  exact end1 _ rfl rfl (by rw [cb_f (fun e=>h1 (by rw [e]))])
 have h1:((a.map i64).length:Int)=((b.map i64).length:Nat):=h1
 rw [ha',hb'] at h1
 have hl:a.length=b.length:=by omega
 refine⟨Nat,fun k=>[(0, .p (ints a)),(1, .p (ints b)),(5, .p (i64 k))],fun _=>⟨0,[]⟩,fun k=>k≤a.length∧a.take k=b.take k,fun k=>a.length - k,?_,?_⟩
 ·exact⟨0,⟨Nat.zero_le _,rfl⟩,ent_of [] [] [] rfl (sk) (sk) rfl⟩
 rintro k ⟨k1,k2⟩
 refine And.intro (fun m1=>?_) (fun m1=>?_)
 rotate_left
 ·have m1:¬ (k:Int)<((a.map i64).length:Nat):=m1
  rw [ha'] at m1
  exact end1 _ rfl rfl (by rw [cb_t (take_end hl (by omega) k2)])
 have m1:(k:Int)<((a.map i64).length:Nat):=m1
 rw [ha'] at m1
 have hk:k<a.length:=by omega
 refine VDraw.seq rfl ?_
 refine⟨_,⟨by omega,i64 (a.getD k 0),icell hk,rfl⟩,?_⟩
 refine⟨_,⟨by omega,i64 (b.getD k 0),icell (by omega),rfl⟩,?_⟩
 refine And.intro (fun m2=>?_) (fun m2=>?_)
 ·have m2:a.getD k 0=b.getD k 0:=m2
  refine⟨_,wrap_i64 (by omega) (by omega),?_⟩
  exact⟨k+1,⟨hk,take_next 0 hk (by omega) k2 m2⟩,ent_of [] [] [] rfl (sk) (sk) rfl,by show a.length - (k+1)<a.length - k;omega⟩
 ·have m2:¬ a.getD k 0=b.getD k 0:=m2
  exact end1 _ rfl rfl (by rw [cb_f (fun e=>m2 (by rw [e]))])
mutual
def csz:Cd→Nat
 | .mk _ _ _ _ _ _ ar=>cszL ar+1
def cszL:List Cd→Nat
 | []=>0
 | c::r=>csz c+cszL r
end
theorem csz_mem:∀ {l:List Cd} {c:Cd},c∈l→csz c≤cszL l
 | [],_,h=>by simp at h
 | x::l,c,h=>by
  rw [cszL]
  rcases List.mem_cons.1 h with rfl | h
  ·omega
  ·have:=csz_mem h;omega
theorem rf_ext {a b:Rf} (h:a.cells=b.cells):a=b:=by
 obtain⟨n,m,p,k⟩:=a
 obtain⟨n',m',p',k'⟩:=b
 injection h with h1 h
 injection h with h2 h
 injection h with h3 h
 injection h with h4 h
 injection h1 with h1
 injection h2 with _ h2
 injection h3 with h3
 injection h4 with _ h4
 subst h1 h2 h3 h4
 rfl
def SaOK (n:Nat):Prop:=∀ a b:Cd,csz a≤n→BigC a→BigC b→Pure cx 57 [a.pv,b.pv] (·=.ret [.bool (cb (a=b))])
theorem cd_eq {o n r v o' n' r' v':Int} {rf rf':Rf} {st st':List Int} {ar ar':List Cd}:(Cd.mk o n r v rf st ar=.mk o' n' r' v' rf' st' ar') ↔ (o=o'∧n=n'∧r=r'∧v=v'∧rf=rf'∧st=st'∧ar=ar'):=by
 constructor
 ·intro h;injection h with h1 h2 h3 h4 h5 h6 h7;exact⟨h1,h2,h3,h4,h5,h6,h7⟩
 ·rintro⟨rfl,rfl,rfl,rfl,rfl,rfl,rfl⟩;rfl
theorem same_step (m:Nat) (ih:SaOK m):SaOK (m+1):=by
 intro a b hz hA hB
 obtain⟨o,n,r,v,rf,st,ar⟩:=a
 obtain⟨o',n',r',v',rf',st',ar'⟩:=b
 have hA1:=hA
 have hB1:=hB
 rw [BigC] at hA1 hB1
 obtain⟨_,a2,a3,a4⟩:=hA1
 obtain⟨_,b2,b3,b4⟩:=hB1
 have hI:=sints_c st st' a2 b2
 have hla:(cellsL ar).length=ar.length:=by rw [cellsL_map,List.length_map]
 have hlb:(cellsL ar').length=ar'.length:=by rw [cellsL_map,List.length_map]
 rw [csz] at hz
 refine pure_of_vc Tryz.func57 rfl rfl rfl ?_
 refine And.intro (fun h1=>?_) (fun h1=>end1 _ rfl rfl (by rw [cb_f (fun e=>h1 (cd_eq.1 e).1)]))
 have h1:o=o':=h1
 refine And.intro (fun h2=>?_) (fun h2=>end1 _ rfl rfl (by rw [cb_f (fun e=>h2 (cd_eq.1 e).2.1)]))
 have h2:n=n':=h2
 refine And.intro (fun h3=>?_) (fun h3=>end1 _ rfl rfl (by rw [cb_f (fun e=>h3 (cd_eq.1 e).2.2.1)]))
 have h3:r=r':=h3
 refine And.intro (fun h4=>?_) (fun h4=>end1 _ rfl rfl (by rw [cb_f (fun e=>h4 (cd_eq.1 e).2.2.2.1)]))
 have h4:v=v':=h4
 refine⟨⟨by kernel_rfl,by kernel_rfl⟩,fun h5=>?_,fun h5=>?_⟩
 rotate_left
 ·exact end1 _ rfl rfl (by rw [cb_f (fun e=>h5 (by rw [(cd_eq.1 e).2.2.2.2.1]))])
 have h5:rf=rf':=rf_ext (by first | exact h5 | (injection h5))
 by_cases h6:st=st'
 rotate_left
 ·rw [cb_f h6] at hI
  refine hI.eq rfl ?_
  exact end1 _ rfl rfl (by rw [cb_f (fun e=>h6 (cd_eq.1 e).2.2.2.2.2.1)])
 rw [cb_t h6] at hI
 refine hI.eq rfl ?_
 refine And.intro (fun h7=>?_) (fun h7=>?_)
 rotate_left
 ·have h7:¬ ((cellsL ar).length:Int)=((cellsL ar').length:Nat):=h7
  rw [hla,hlb] at h7
  exact end1 _ rfl rfl (by rw [cb_f (fun e=>h7 (by rw [(cd_eq.1 e).2.2.2.2.2.2]))])
 have h7:((cellsL ar).length:Int)=((cellsL ar').length:Nat):=h7
 rw [hla,hlb] at h7
 have hl:ar.length=ar'.length:=by omega
 refine⟨Nat,fun k=>[(2, .ptr 0 0 0),(3, .ptr 1 0 0),(5, .p (i64 k))],fun _=>⟨2,[(1,cO ((Cd.mk o' n' r' v' rf' st' ar').cells.map .p)),(0,cO ((Cd.mk o n r v rf st ar).cells.map .p))]⟩,fun k=>k≤ar.length∧ar.take k=ar'.take k,fun k=>ar.length - k,?_,?_⟩
 ·exact⟨0,⟨Nat.zero_le _,rfl⟩,ent_of [] [] [] rfl (sk) (sk) rfl⟩
 rintro k ⟨k1,k2⟩
 refine And.intro (fun m1=>?_) (fun m1=>?_)
 rotate_left
 ·have m1:¬ (k:Int)<((cellsL ar).length:Nat):=m1
  rw [hla] at m1
  exact end1 _ rfl rfl (by rw [cb_t (cd_eq.2 ⟨h1,h2,h3,h4,h5,h6,take_end hl (by omega) k2⟩)])
 have m1:(k:Int)<((cellsL ar).length:Nat):=m1
 rw [hla] at m1
 have hk:k<ar.length:=by omega
 have hk':k<ar'.length:=by omega
 have c1:=ccell hk
 have c2:=ccell hk'
 rw [← cellsL_map] at c1 c2
 have hm:=getD_memL cd0 hk
 have hm':=getD_memL cd0 hk'
 have hs:=ih (ar.getD k cd0) (ar'.getD k cd0) (by have:=csz_mem hm;omega) (bigCs_mem a4 hm) (bigCs_mem b4 hm')
 have hn:=take_next cd0 hk hk' k2
 have hd:¬ ar.getD k cd0=ar'.getD k cd0→¬ ar=ar':=fun h e=>h (by rw [e])
 generalize ar.getD k cd0=x at c1 hs hn hd
 generalize ar'.getD k cd0=y at c2 hs hn hd
 have hxy:x=y∨¬ x=y:=Classical.em _
 obtain⟨x1,x2,x3,x4,x5,x6,x7⟩:=x
 obtain⟨y1,y2,y3,y4,y5,y6,y7⟩:=y
 refine VDraw.seq rfl ?_
 refine⟨_,⟨by omega,(Cd.mk x1 x2 x3 x4 x5 x6 x7).cells,c1,rfl⟩,?_⟩
 refine⟨_,⟨by omega,(Cd.mk y1 y2 y3 y4 y5 y6 y7).cells,c2,rfl⟩,?_⟩
 refine hxy.elim (fun e=>?_) (fun e=>?_)
 ·rw [cb_t e] at hs
  refine hs.eq rfl ?_
  refine⟨_,wrap_i64 (by omega) (by omega),?_⟩
  exact⟨k+1,⟨hk,hn e⟩,ent_of [] [] [] rfl (sk) (sk) rfl,by show ar.length - (k+1)<ar.length - k;omega⟩
 ·rw [cb_f e] at hs
  refine hs.eq rfl ?_
  exact end1 _ rfl rfl (by rw [cb_f (fun e2=>hd e (cd_eq.1 e2).2.2.2.2.2.2)])
theorem same_all:∀ n,SaOK n
 | 0=>fun a _ h=>by cases a;rw [csz] at h;omega
 | n+1=>same_step n (same_all n)
theorem sameC_c (a b:Cd) (ha:BigC a) (hb:BigC b):Pure cx 57 [a.pv,b.pv] (·=.ret [.bool (cb (a=b))]):=same_all _ a b (Nat.le_refl _) ha hb
def Out {α:Type} (b:Bool) (p:Nat) (r:Rd α) (a:α) (q:Nat) (b':Bool):Prop:=if b=true then b'=true∧q=p else r=if b'=true then .inl q else .inr (a,q)
theorem Out.then {α β:Type} {b b1 b2:Bool} {p q q2:Nat} {r:Rd α} {k:α→Nat→Rd β} {a:α} {c:β} (h:Out b p r a q b1) (h2:Out b1 q (k a q) c q2 b2):Out b p (r.then k) c q2 b2:=by
 cases b
 ·have h:r=if b1=true then .inl q else .inr (a,q):=h
  show r.then k=_
  cases b1
  ·rw [if_neg (by decide)] at h
   subst h
   exact h2
  ·rw [if_pos rfl] at h
   subst h
   obtain⟨rfl,rfl⟩:b2=true∧q2=q:=h2
   rfl
 ·obtain⟨rfl,rfl⟩:b1=true∧q=p:=h
  exact h2
theorem Out.bad {α:Type} {p:Nat} {r:Rd α} {a:α}:Out true p r a p true:=⟨rfl,rfl⟩
theorem Out.same {α:Type} {b:Bool} {p:Nat} {a:α}:Out b p (.inr (a,p)) a p b:=by
 cases b
 ·rfl
 ·exact⟨rfl,rfl⟩
theorem Out.ret {α:Type} {b:Bool} {p:Nat} {a a':α} (h:a=a'):Out b p (.inr (a,p)) a' p b:=by
 subst h;exact Out.same
abbrev Tk (ws:List Wd) (b:Bool) (q:Nat) (s:List UInt8):Prop:=b=false∧txt ws q=s
theorem Out.yes {α:Type} {c:Prop} [Decidable c] {b:Bool} {p q:Nat} {x y:Rd α} {a:α} {b':Bool} (h:b=false∧c) (hx:Out false p x a q b'):Out b p (if c then x else y) a q b':=by
 obtain⟨rfl,h⟩:=h
 rw [if_pos h];exact hx
theorem Out.no {α:Type} {c:Prop} [Decidable c] {b:Bool} {p q:Nat} {x y:Rd α} {a:α} {b':Bool} (h:¬ (b=false∧c)) (hy:Out b p y a q b'):Out b p (if c then x else y) a q b':=by
 cases b
 ·rw [if_neg (fun e=>h ⟨rfl,e⟩)];exact hy
 ·exact hy
theorem knd_of {ws:List Wd} (hg:GoodW ws) {q:Nat} {s:List UInt8} (hs:s∈keysL++marksL) (h:txt ws q=s) (hn:s ≠ []):knd ws q=2∨knd ws q=4:=by
 have hr:=hg.at (txt_lt (ws:=ws) (q:=q) (by rw [h];exact hn))
 rw [h] at hr
 have key:∀ s∈keysL++marksL,nameN s=false∧numN s=false:=by decide
 obtain⟨k1,k2⟩:=key s hs
 unfold rightN at hr
 split at hr
 ·rw [k1] at hr;cases hr
 ·split at hr
  ·rename_i h2;exact .inl h2
  ·split at hr
   ·rw [k2] at hr;cases hr
   ·split at hr
    ·rename_i h4;exact .inr h4
    ·cases hr
def rrO (ws:List Wd) (q:Nat) (b:Bool):AObj:=⟨129,false, .bx [.p (.lsts 4 (ws.map Wd.cells)), .p (i64 q), .p (.bool b)]⟩
abbrev rrH (ws:List Wd) (q:Nat) (b:Bool):Hp:=⟨1,[(0,rrO ws q b)]⟩
def isQ (ws:List Wd) (q:Nat) (b:Bool) (s:List UInt8) (e:AE) (H':Hp):Prop:=(Tk ws b q s→e=.returned (vB true)∧H'=rrH ws q b)∧(¬ Tk ws b q s→e=.returned (vB false)∧H'=rrH ws q b)
theorem is_h (ws:List Wd) (q:Nat) (b:Bool) (s:List UInt8) (hg:GoodW ws) (hq:q≤ws.length) (hs:s∈keysL++marksL) (hn:s ≠ []):HoldsG cx 136 [.ptr 0 0 0, .p (.str s)] (rrH ws q b) (isQ ws q b s):=by
 refine holdsN_of_vc Tryz.func136 rfl rfl rfl ?_
 have hl:=hg.len
 have hl':(ws.map Wd.cells).length=ws.length:=List.length_map ..
 cases b
 rotate_left
 ·refine VDraw.seq rfl ?_
  exact⟨[],[],[], .returned (vB false),rrH ws q true,rfl,sk,sk,fun h=>absurd h.1 (by decide),fun _=>⟨rfl,rfl⟩⟩
 refine VDraw.seq rfl ?_
 (first | refine brLt (fun h1=>?_) (fun h1=>?_) | refine brLe (fun h1=>?_) (fun h1=>?_) | refine brEq (fun h1=>?_) (fun h1=>?_))
 rotate_left
 ·have h1:¬ (q:Int)<((ws.map Wd.cells).length:Nat):=h1
  rw [hl'] at h1
  exact⟨[],[],[], .returned (vB false),rrH ws q false,rfl,sk,sk,fun h=>absurd (txt_lt (ws:=ws) (q:=q) (by rw [h.2];exact hn)) (by omega),fun _=>⟨rfl,rfl⟩⟩
 have h1:(q:Int)<((ws.map Wd.cells).length:Nat):=h1
 rw [hl'] at h1
 have hlt:q<ws.length:=by omega
 refine⟨_,⟨by omega,(wat ws q).cells,wdcell hlt,rfl⟩,?_⟩
 (first | refine brLt (fun h2=>?_) (fun h2=>?_) | refine brLe (fun h2=>?_) (fun h2=>?_) | refine brEq (fun h2=>?_) (fun h2=>?_))
 rotate_left
 ·have h2:¬ txt ws q=s:=h2
  exact⟨[],[],[], .returned (vB false),rrH ws q false,rfl,sk,sk,fun h=>absurd h.2 h2,fun _=>⟨rfl,rfl⟩⟩
 have h2:txt ws q=s:=h2
 have hk:=knd_of hg hs h2 hn
 refine⟨_,⟨by omega,(wat ws q).cells,wdcell hlt,rfl⟩,?_⟩
 (first | refine brLt (fun h3=>?_) (fun h3=>?_) | refine brLe (fun h3=>?_) (fun h3=>?_) | refine brEq (fun h3=>?_) (fun h3=>?_))
 ·exact⟨[],[],[], .returned (vB true),rrH ws q false,rfl,sk,sk,fun _=>⟨rfl,rfl⟩,fun h=>absurd ⟨rfl,h2⟩ h⟩
 have h3:¬ knd ws q=2:=h3
 refine⟨_,⟨by omega,(wat ws q).cells,wdcell hlt,rfl⟩,?_⟩
 (first | refine brLt (fun h4=>?_) (fun h4=>?_) | refine brLe (fun h4=>?_) (fun h4=>?_) | refine brEq (fun h4=>?_) (fun h4=>?_))
 ·exact⟨[],[],[], .returned (vB true),rrH ws q false,rfl,sk,sk,fun _=>⟨rfl,rfl⟩,fun h=>absurd ⟨rfl,h2⟩ h⟩
 ·have h4:¬ knd ws q=4:=h4
  omega
def tkQ (ws:List Wd) (q:Nat) (b:Bool) (s:List UInt8) (e:AE) (H':Hp):Prop:=(Tk ws b q s→e=.returned (vB true)∧H'=rrH ws (q+1) false)∧(¬ Tk ws b q s→e=.returned (vB false)∧H'=rrH ws q b)
theorem take_h (ws:List Wd) (q:Nat) (b:Bool) (s:List UInt8) (hg:GoodW ws) (hq:q≤ws.length) (hs:s∈keysL++marksL) (hn:s ≠ []):HoldsG cx 96 [.ptr 0 0 0, .p (.str s)] (rrH ws q b) (tkQ ws q b s):=by
 refine holdsN_of_vc Tryz.func96 rfl rfl rfl ?_
 have hl:=hg.len
 refine(is_h ws q b s hg hq hs hn).holds.mono fun e H' h=>?_
 by_cases c:Tk ws b q s
 ·obtain⟨rfl,rfl⟩:=h.1 c
  obtain⟨rfl,c2⟩:=c
  refine⟨_,wrap_i64 (by omega) (by omega),?_⟩
  exact⟨[],[],[], .returned (vB true),rrH ws (q+1) false,rfl,sk,sk,fun _=>⟨rfl,rfl⟩,fun h=>absurd ⟨rfl,c2⟩ h⟩
 ·obtain⟨rfl,rfl⟩:=h.2 c
  exact⟨[],[],[], .returned (vB false),rrH ws q b,rfl,sk,sk,fun h=>absurd h c,fun _=>⟨rfl,rfl⟩⟩
def RQ {α:Type} (ws:List Wd) (b:Bool) (q:Nat) (r:Rd α) (val:α→AV) (e:AE) (H':Hp):Prop:=∃ a q' b',q'≤ws.length∧Out b q r a q' b'∧e=.returned (val a)∧H'=rrH ws q' b'
theorem must_h (ws:List Wd) (q:Nat) (b:Bool) (s:List UInt8) (hg:GoodW ws) (hq:q≤ws.length) (hs:s∈keysL++marksL) (hn:s ≠ []):HoldsG cx 99 [.ptr 0 0 0, .p (.str s)] (rrH ws q b) (RQ ws b q (mustR ws s q) fun _=>und):=by
 refine holdsN_of_vc Tryz.func99 rfl rfl rfl ?_
 refine(take_h ws q b s hg hq hs hn).holds.mono fun e H' h=>?_
 by_cases c:Tk ws b q s
 ·obtain⟨rfl,rfl⟩:=h.1 c
  obtain⟨rfl,c2⟩:=c
  exact⟨[],[],[], .returned und,rrH ws (q+1) false,rfl,sk,sk,(),q+1,false,txt_lt (by rw [c2];exact hn),by show mustR ws s q=_;rw [mustR,if_pos c2];rfl,rfl,rfl⟩
 ·obtain⟨rfl,rfl⟩:=h.2 c
  refine⟨[],[],[], .returned und,rrH ws q true,rfl,sk,sk,(),q,true,hq,?_,rfl,rfl⟩
  cases b
  ·show mustR ws s q=.inl q
   rw [mustR,if_neg (fun e=>c ⟨rfl,e⟩)]
  ·exact Out.bad
def wdR (ws:List Wd) (k:Int) (q:Nat):Rd (List UInt8):=if knd ws q=k then .inr (txt ws q,q+1) else .inl q
theorem word_h (ws:List Wd) (q:Nat) (b:Bool) (k:Int) (hk:k ≠ 0) (hg:GoodW ws) (hq:q≤ws.length):HoldsG cx 137 [.ptr 0 0 0, .p (i64 k)] (rrH ws q b) fun e H'=>∃ a q' b',(q'≤ws.length∧(b'=true→a=[]))∧Out b q (wdR ws k q) a q' b'∧e=.returned (.p (.str a))∧H'=rrH ws q' b':=by
 refine holdsN_of_vc Tryz.func137 rfl rfl rfl ?_
 have hl:=hg.len
 have hl':(ws.map Wd.cells).length=ws.length:=List.length_map ..
 cases b
 rotate_left
 ·refine VDraw.seq rfl ?_
  exact⟨[],[],[], .returned (.p (.str [])),rrH ws q true,rfl,sk,sk,[],q,true,⟨hq,fun _=>rfl⟩,Out.bad,rfl,rfl⟩
 have no:¬ knd ws q=k→Out false q (wdR ws k q) [] q true:=fun h=>by
  show wdR ws k q=.inl q
  rw [wdR,if_neg h]
 refine VDraw.seq rfl ?_
 (first | refine brLt (fun h1=>?_) (fun h1=>?_) | refine brLe (fun h1=>?_) (fun h1=>?_) | refine brEq (fun h1=>?_) (fun h1=>?_))
 ·have h1:((ws.map Wd.cells).length:Int)≤(q:Nat):=h1
  rw [hl'] at h1
  exact⟨[],[],[], .returned (.p (.str [])),rrH ws q true,rfl,sk,sk,[],q,true,⟨hq,fun _=>rfl⟩,no (fun e=>absurd (knd_lt (ws:=ws) (q:=q) (by rw [e];exact hk)) (by omega)),rfl,rfl⟩
 have h1:¬ ((ws.map Wd.cells).length:Int)≤(q:Nat):=h1
 rw [hl'] at h1
 have hlt:q<ws.length:=by omega
 refine⟨_,⟨by omega,(wat ws q).cells,wdcell hlt,rfl⟩,?_⟩
 (first | refine brLt (fun h2=>?_) (fun h2=>?_) | refine brLe (fun h2=>?_) (fun h2=>?_) | refine brEq (fun h2=>?_) (fun h2=>?_))
 rotate_left
 ·have h2:¬ knd ws q=k:=h2
  exact⟨[],[],[], .returned (.p (.str [])),rrH ws q true,rfl,sk,sk,[],q,true,⟨hq,fun _=>rfl⟩,no h2,rfl,rfl⟩
 have h2:knd ws q=k:=h2
 refine⟨_,wrap_i64 (by omega) (by omega),?_⟩
 refine VDraw.seq rfl ?_
 refine⟨(q:Int),by rw [show(q:Int)+1 - 1=(q:Int) by omega];exact wrap_i64 (by omega) (by omega),?_⟩
 refine⟨_,⟨by omega,(wat ws q).cells,wdcell hlt,rfl⟩,?_⟩
 exact⟨[],[],[], .returned (.p (.str (txt ws q))),rrH ws (q+1) false,rfl,sk,sk,txt ws q,q+1,false,⟨hlt,fun h=>by cases h⟩,by show wdR ws k q=_;rw [wdR,if_pos h2];rfl,rfl,rfl⟩
theorem rname_h (ws:List Wd) (q:Nat) (b:Bool) (hg:GoodW ws) (hq:q≤ws.length):HoldsG cx 98 [.ptr 0 0 0] (rrH ws q b) (RQ ws b q (nameR ws q) fun t=>.p (.str t)):=by
 refine holdsN_of_vc Tryz.func98 rfl rfl rfl ?_
 refine(word_h ws q b 1 (by decide) hg hq).holds.mono fun e H' h=>?_
 obtain⟨a,q',b',⟨h1,_⟩,h2,rfl,rfl⟩:=h
 exact⟨[],[],[], .returned (.p (.str a)),rrH ws q' b',rfl,sk,sk,a,q',b',h1,h2,rfl,rfl⟩
theorem numR_wd (ws:List Wd) (q:Nat):numR ws q=(wdR ws 3 q).then fun t q=>.inr (valD t,q):=by
 rw [numR,wdR]
 split <;> rfl
theorem ucell {s:List UInt8} {k:Nat} (h:k<s.length):s[k]?=some (s.getD k 0):=by
 rw [List.getD_eq_getElem?_getD,List.getElem?_eq_getElem h];rfl
theorem rnum_h (ws:List Wd) (q:Nat) (b:Bool) (hg:GoodW ws) (hq:q≤ws.length):HoldsG cx 97 [.ptr 0 0 0] (rrH ws q b) (RQ ws b q (numR ws q) fun n=>.p (i64 n)):=by
 refine holdsN_of_vc Tryz.func97 rfl rfl rfl ?_
 refine(word_h ws q b 3 (by decide) hg hq).holds.mono fun e H' h=>?_
 obtain⟨t,q',b',⟨h1,hb⟩,h2,rfl,rfl⟩:=h
 have hdig:t.length≤4∧∀ c∈t,48≤c.toNat∧c.toNat≤57:=by
  cases b'
  ·cases b
   ·have h2:wdR ws 3 q=.inr (t,q'):=h2
    rw [wdR] at h2
    split at h2
    ·rename_i hk
     injection h2 with h2;injection h2 with h3 h4
     rw [← h3]
     exact num_dig (num_ok hg hk)
    ·cases h2
   ·exact absurd h2.1 (by decide)
  ·rw [hb rfl];exact⟨by simp,by simp⟩
 obtain⟨ht4,hdg⟩:=hdig
 refine⟨Nat,fun k=>[(3, .p (.str t)),(4, .p (i64 (valD (t.take k)))),(5, .p (i64 k))],fun _=>rrH ws q' b',fun k=>k≤t.length,fun k=>t.length - k,?_,?_⟩
 ·exact⟨0,Nat.zero_le _,ent_of [] [] [] rfl (sk) (sk) rfl⟩
 intro k hk
 (first | refine brLt (fun h3=>?_) (fun h3=>?_) | refine brLe (fun h3=>?_) (fun h3=>?_) | refine brEq (fun h3=>?_) (fun h3=>?_))
 ·have h3:(k:Int)<(t.length:Nat):=h3
  have hkt:k<t.length:=by omega
  obtain⟨c,hc⟩:∃ c,c=t.getD k 0:=⟨_,rfl⟩
  have hbd:=hdg c (by rw [hc];exact getD_memL 0 hkt)
  have hv:=valD_take hdg k hk
  have hp:(10:Int) ^ k≤10 ^ 4:=by
   rcases (show k=0∨k=1∨k=2∨k=3∨k=4 by omega) with rfl | rfl | rfl | rfl | rfl <;> decide
  have hp4:(10:Int) ^ 4=10000:=by decide
  refine⟨10 * valD (t.take k),wrap_i64 (by omega) (by omega),?_⟩
  refine⟨_,⟨by omega,c,by rw [hc];exact ucell hkt,rfl⟩,?_⟩
  refine⟨(c.toNat:Int) - 48,wrap8 (by omega) (by omega),?_⟩
  refine⟨(c.toNat:Int) - 48,wrap_i64 (by omega) (by omega),?_⟩
  refine⟨valD (t.take (k+1)),by rw [take_succ_getD 0 hkt,← hc,valD_snoc];exact wrap_i64 (by omega) (by omega),?_⟩
  refine⟨_,wrap_i64 (by omega) (by omega),?_⟩
  exact⟨k+1,hkt,ent_of [] [] [] rfl (sk) (sk) rfl,by show t.length - (k+1)<t.length - k;omega⟩
 ·have h3:¬ (k:Int)<(t.length:Nat):=h3
  have hke:k=t.length:=by omega
  subst hke
  refine⟨[],[],[], .returned (.p (i64 (valD t))),rrH ws q' b',rfl,⟨_,rfl,by rw [take_all (Nat.le_refl _)];rfl⟩,sk,valD t,q',b',h1,?_,rfl,rfl⟩
  rw [numR_wd]
  exact h2.then Out.same
theorem Out.mv {α:Type} {p p' q:Nat} {r:Rd α} {a:α} {b':Bool} (h:Out false p r a q b'):Out false p' r a q b':=h
theorem rtail {ws:List Wd} {nm pl:List UInt8} {m n:Int} {b:Bool} {q q9:Nat} {b9:Bool} {u:Unit} (o:Out b q (mustR ws tRB q) u q9 b9):Out b q (refTail ws nm m pl n q) ⟨nm,m,pl,n⟩ q9 b9:=o.then Out.same
theorem rref_h (ws:List Wd) (q0:Nat) (b0:Bool) (hg:GoodW ws) (hq0:q0≤ws.length):HoldsG cx 138 [.ptr 0 0 0] (rrH ws q0 b0) (RQ ws b0 q0 (refR ws q0) fun r=>.p r.pv):=by
 refine holdsN_of_vc Tryz.func138 rfl rfl rfl ?_
 have hl:=hg.len
 have hl':(ws.map Wd.cells).length=ws.length:=List.length_map ..
 refine(rname_h ws q0 b0 hg hq0).holds.useT [] [] rfl (sk) (sk) fun e0 H0 hq=>?_
 obtain⟨nm,q1,b1,q1l,o1,rfl,rfl⟩:=hq
 refine⟨rfl,_,⟨2,(0,rrO ws q1 b1)::[(1,rO rf0)]⟩,rfl,rfl,?_⟩
 by_cases c1:Tk ws b1 q1 tLB
 rotate_left
 ·refine(take_h ws q1 b1 tLB hg q1l (by decide) (by decide)).holds.useT [] [] rfl (sk) (sk) fun e0 H0 hq=>?_
  obtain⟨rfl,rfl⟩:=hq.2 c1
  refine⟨rfl,_,⟨3,(0,rrO ws q1 b1)::[(2,rO ⟨nm,0,[],0⟩),(1,rO rf0)]⟩,rfl,rfl,?_⟩
  exact⟨[],[],[], .returned (.p (⟨nm,0,[],0⟩:Rf).pv),rrH ws q1 b1,rfl,sk,sk,⟨nm,0,[],0⟩,q1,b1,q1l,o1.then (Out.no c1 Out.same),rfl,rfl⟩
 have q2l:q1+1≤ws.length:=txt_lt (by rw [c1.2];decide)
 refine(take_h ws q1 b1 tLB hg q1l (by decide) (by decide)).holds.useT [] [] rfl (sk) (sk) fun e0 H0 hq=>?_
 obtain⟨rfl,rfl⟩:=hq.1 c1
 refine⟨rfl,_,⟨3,(0,rrO ws (q1+1) false)::[(2,rO ⟨nm,0,[],0⟩),(1,rO rf0)]⟩,rfl,rfl,?_⟩
 by_cases c2:Tk ws false (q1+1) tAll
 ·have q3l:q1+1+1≤ws.length:=txt_lt (by rw [c2.2];decide)
  refine(take_h ws (q1+1) false tAll hg q2l (by decide) (by decide)).holds.useT [] [] rfl (sk) (sk) fun e0 H0 hq=>?_
  obtain⟨rfl,rfl⟩:=hq.1 c2
  refine⟨rfl,_,⟨3,(0,rrO ws ((q1+1)+1) false)::[(2,rO ⟨nm,0,[],0⟩),(1,rO rf0)]⟩,rfl,rfl,?_⟩
  obtain⟨q3,hq3⟩:∃ q3,q3=q1+1+1:=⟨_,rfl⟩
  rw [← hq3] at q3l
  rw [← hq3]
  refine(must_h ws q3 false tRB hg q3l (by decide) (by decide)).holds.useT [] [] rfl (sk) (sk) fun e0 H0 hq=>?_
  obtain⟨u,q9,b9,q9l,o9,rfl,rfl⟩:=hq
  refine⟨rfl,_,⟨3,(0,rrO ws q9 b9)::[(2,rO ⟨nm,3,[],0⟩),(1,rO rf0)]⟩,rfl,rfl,?_⟩
  exact⟨[],[],[], .returned (.p (⟨nm,3,[],0⟩:Rf).pv),rrH ws q9 b9,rfl,sk,sk,⟨nm,3,[],0⟩,q9,b9,q9l,(o1.then (Out.yes c1 (Out.yes c2 (by rw [show q1+2=q3 by omega];exact(rtail o9).mv (p':=q1))))),rfl,rfl⟩
 refine(take_h ws (q1+1) false tAll hg q2l (by decide) (by decide)).holds.useT [] [] rfl (sk) (sk) fun e0 H0 hq=>?_
 obtain⟨rfl,rfl⟩:=hq.2 c2
 refine⟨rfl,_,⟨3,(0,rrO ws (q1+1) false)::[(2,rO ⟨nm,0,[],0⟩),(1,rO rf0)]⟩,rfl,rfl,?_⟩
 by_cases c3:knd ws (q1+1)=3
 ·have hlt:q1+1<ws.length:=knd_lt (by rw [c3];decide)
  refine VDraw.seq rfl ?_
  refine And.intro (fun _=>?_) (fun h=>absurd (show((q1+1:Nat):Int)<((ws.map Wd.cells).length:Nat) by rw [hl'];omega) h)
  refine⟨_,⟨by omega,(wat ws (q1+1)).cells,wdcell hlt,rfl⟩,?_⟩
  refine And.intro (fun _=>?_) (fun h=>absurd c3 h)
  refine(rnum_h ws (q1+1) false hg q2l).holds.useT [] [] rfl (sk) (sk) fun e0 H0 hq=>?_
  obtain⟨n,q4,b4,q4l,o4,rfl,rfl⟩:=hq
  refine⟨rfl,_,⟨3,(0,rrO ws q4 b4)::[(2,rO ⟨nm,0,[],0⟩),(1,rO rf0)]⟩,rfl,rfl,?_⟩
  refine(must_h ws q4 b4 tRB hg q4l (by decide) (by decide)).holds.useT [] [] rfl (sk) (sk) fun e0 H0 hq=>?_
  obtain⟨u,q9,b9,q9l,o9,rfl,rfl⟩:=hq
  refine⟨rfl,_,⟨3,(0,rrO ws q9 b9)::[(2,rO ⟨nm,2,[],n⟩),(1,rO rf0)]⟩,rfl,rfl,?_⟩
  exact⟨[],[],[], .returned (.p (⟨nm,2,[],n⟩:Rf).pv),rrH ws q9 b9,rfl,sk,sk,⟨nm,2,[],n⟩,q9,b9,q9l,(o1.then (Out.yes c1 (Out.no c2 (Out.yes ⟨rfl,c3⟩ (o4.then (rtail o9)))).mv)),rfl,rfl⟩
 have c3':¬ (false=false∧knd ws (q1+1)=3):=fun h=>c3 h.2
 have hb:∀ {r:Rf} {q9:Nat} {b9:Bool},Out false (q1+1) ((nameR ws (q1+1)).then fun pl q=>if txt ws q=tPlus then(numR ws (q+1)).then fun n q=>refTail ws nm 1 pl n q else refTail ws nm 1 pl 0 q) r q9 b9→Out b0 q0 (refR ws q0) r q9 b9:=
  fun h=>o1.then (Out.yes c1 (Out.no c2 (Out.no c3' h)).mv)
 refine VDraw.seqTo [(0, .ptr 0 0 0),(2, .ptr 1 0 0),(3, .ptr 2 0 0),(24,vB false)] ⟨3,[(0,rrO ws (q1+1) false),(2,rO ⟨nm,0,[],0⟩),(1,rO rf0)]⟩ rfl ?_ ?_
 ·(first | refine brLt (fun c4=>?_) (fun c4=>?_) | refine brLe (fun c4=>?_) (fun c4=>?_) | refine brEq (fun c4=>?_) (fun c4=>?_))
  ·have c4:((q1+1:Nat):Int)<((ws.map Wd.cells).length:Nat):=c4
   rw [hl'] at c4
   refine⟨_,⟨by omega,(wat ws (q1+1)).cells,wdcell (by omega),rfl⟩,?_⟩
   refine And.intro (fun h=>absurd h c3) (fun _=>?_)
   exact ent_of [] [] [] rfl (sk) (sk) rfl
  ·exact ent_of [] [] [] rfl (sk) (sk) rfl
 refine(rname_h ws (q1+1) false hg q2l).holds.useT [] [] rfl (sk) (sk) fun e0 H0 hq=>?_
 obtain⟨pl,q5,b5,q5l,o5,rfl,rfl⟩:=hq
 refine⟨rfl,_,⟨3,(0,rrO ws q5 b5)::[(2,rO ⟨nm,0,[],0⟩),(1,rO rf0)]⟩,rfl,rfl,?_⟩
 by_cases c6:Tk ws b5 q5 tPlus
 ·have q6l:q5+1≤ws.length:=txt_lt (by rw [c6.2];decide)
  refine(take_h ws q5 b5 tPlus hg q5l (by decide) (by decide)).holds.useT [] [] rfl (sk) (sk) fun e0 H0 hq=>?_
  obtain⟨rfl,rfl⟩:=hq.1 c6
  refine⟨rfl,_,⟨3,(0,rrO ws (q5+1) false)::[(2,rO ⟨nm,1,pl,0⟩),(1,rO rf0)]⟩,rfl,rfl,?_⟩
  refine(rnum_h ws (q5+1) false hg q6l).holds.useT [] [] rfl (sk) (sk) fun e0 H0 hq=>?_
  obtain⟨n,q7,b7,q7l,o7,rfl,rfl⟩:=hq
  refine⟨rfl,_,⟨3,(0,rrO ws q7 b7)::[(2,rO ⟨nm,1,pl,0⟩),(1,rO rf0)]⟩,rfl,rfl,?_⟩
  refine(must_h ws q7 b7 tRB hg q7l (by decide) (by decide)).holds.useT [] [] rfl (sk) (sk) fun e0 H0 hq=>?_
  obtain⟨u,q9,b9,q9l,o9,rfl,rfl⟩:=hq
  refine⟨rfl,_,⟨3,(0,rrO ws q9 b9)::[(2,rO ⟨nm,1,pl,n⟩),(1,rO rf0)]⟩,rfl,rfl,?_⟩
  exact⟨[],[],[], .returned (.p (⟨nm,1,pl,n⟩:Rf).pv),rrH ws q9 b9,rfl,sk,sk,⟨nm,1,pl,n⟩,q9,b9,q9l,(hb (o5.then (Out.yes c6 (o7.then (rtail o9)).mv))),rfl,rfl⟩
 ·refine(take_h ws q5 b5 tPlus hg q5l (by decide) (by decide)).holds.useT [] [] rfl (sk) (sk) fun e0 H0 hq=>?_
  obtain⟨rfl,rfl⟩:=hq.2 c6
  refine⟨rfl,_,⟨3,(0,rrO ws q5 b5)::[(2,rO ⟨nm,1,pl,0⟩),(1,rO rf0)]⟩,rfl,rfl,?_⟩
  refine(must_h ws q5 b5 tRB hg q5l (by decide) (by decide)).holds.useT [] [] rfl (sk) (sk) fun e0 H0 hq=>?_
  obtain⟨u,q9,b9,q9l,o9,rfl,rfl⟩:=hq
  refine⟨rfl,_,⟨3,(0,rrO ws q9 b9)::[(2,rO ⟨nm,1,pl,0⟩),(1,rO rf0)]⟩,rfl,rfl,?_⟩
  exact⟨[],[],[], .returned (.p (⟨nm,1,pl,0⟩:Rf).pv),rrH ws q9 b9,rfl,sk,sk,⟨nm,1,pl,0⟩,q9,b9,q9l,(hb (o5.then (Out.no c6 (rtail o9)))),rfl,rfl⟩
def LK {α:Type} (b0:Bool) (q0:Nat) (R:Rd α) (go:Nat→Rd α) (n:Nat) (q:Nat) (b:Bool):Prop:=∃ f,(b=false→n - q<f)∧∀ l q' b',Out b q (go f) l q' b'→Out b0 q0 R l q' b'
theorem LK.stop {α:Type} {b0:Bool} {q0:Nat} {R:Rd α} {go:Nat→Rd α} {n q:Nat} {b:Bool} {l:α} (h:LK b0 q0 R go n q b) (hs:b=false→∀ f,go (f+1)=.inr (l,q)):Out b0 q0 R l q b:=by
 obtain⟨f,hf,hk⟩:=h
 refine hk l q b ?_
 cases b
 ·obtain⟨f,rfl⟩:∃ g,f=g+1:=⟨f - 1,by have:=hf rfl;omega⟩
  rw [hs rfl f];exact Out.same
 ·exact Out.bad
theorem LK.step {α:Type} {b0:Bool} {q0:Nat} {R:Rd α} {go go':Nat→Rd α} {n q q2:Nat} {b2:Bool} (h:LK b0 q0 R go n q false) (hs:∀ f l q' b',Out b2 q2 (go' f) l q' b'→Out false q (go (f+1)) l q' b') (hlt:b2=false→q<q2∧q2≤n):LK b0 q0 R go' n q2 b2:=by
 obtain⟨f,hf,hk⟩:=h
 obtain⟨f,rfl⟩:∃ g,f=g+1:=⟨f - 1,by have:=hf rfl;omega⟩
 refine⟨f,fun e=>?_,fun l q' b' ho=>hk l q' b' (hs f l q' b' ho)⟩
 have:=hf rfl
 have:=hlt e
 omega
theorem out_inr {α:Type} {p q:Nat} {r:Rd α} {a:α} (h:Out false p r a q false):r=.inr (a,q):=h
theorem rrefs_h (ws:List Wd) (F q0:Nat) (b0:Bool) (key:List UInt8) (hk:key∈keysL++marksL) (hkn:key ≠ []) (hF:ws.length<F) (hg:GoodW ws) (hq0:q0≤ws.length):HoldsG cx 100 [.ptr 0 0 0, .p (.str key)] (rrH ws q0 b0) (RQ ws b0 q0 (refsR ws F key q0) fun l=>.p (rfl_ l)):=by
 refine holdsN_of_vc Tryz.func100 rfl rfl rfl ?_
 have hl:=hg.len
 by_cases c1:Tk ws b0 q0 key
 rotate_left
 ·refine(take_h ws q0 b0 key hg hq0 hk hkn).holds.useT [] [] rfl (sk) (sk) fun e0 H0 hq=>?_
  obtain⟨rfl,rfl⟩:=hq.2 c1
  refine⟨rfl,_,⟨1,(0,rrO ws q0 b0)::[]⟩,rfl,rfl,?_⟩
  exact⟨[],[],[], .returned (.p (rfl_ [])),rrH ws q0 b0,rfl,⟨_,rfl, .inr (.inr ⟨4,rfl⟩)⟩,sk,[],q0,b0,hq0,Out.no c1 Out.same,rfl,rfl⟩
 have q1l:q0+1≤ws.length:=txt_lt (by rw [c1.2];exact hkn)
 refine(take_h ws q0 b0 key hg hq0 hk hkn).holds.useT [] [] rfl (sk) (sk) fun e0 H0 hq=>?_
 obtain⟨rfl,rfl⟩:=hq.1 c1
 refine⟨rfl,_,⟨1,(0,rrO ws (q0+1) false)::[]⟩,rfl,rfl,?_⟩
 refine(rref_h ws (q0+1) false hg q1l).holds.useT [] [] rfl (sk) (sk) fun e0 H0 hq=>?_
 obtain⟨r0,q2,b2,q2l,o2,rfl,rfl⟩:=hq
 refine⟨rfl,_,⟨1,(0,rrO ws q2 b2)::[]⟩,rfl,rfl,?_⟩
 refine⟨List Rf × Nat × Bool,fun x=>[(0, .ptr 0 0 0),(5, .sl 1 4 0 x.1.length)],fun x=>⟨2,[(1,refsO x.1),(0,rrO ws x.2.1 x.2.2)]⟩,fun x=>x.2.1≤ws.length∧(x.2.2=false→x.1.length≤x.2.1)∧x.1.length≤1501∧LK b0 q0 (refsR ws F key q0) (fun f=>moreR ws (refR ws) f x.1 x.2.1) ws.length x.2.1 x.2.2,fun x=>if x.2.2=true then 0 else ws.length+1 - x.2.1,?_,?_⟩
 ·refine⟨([r0],q2,b2),⟨q2l,fun e=>?_,by simp,F,fun _=>by simp only [];omega,fun l q' b' ho=>Out.yes c1 (o2.then ho).mv⟩,ent_of [] [] [] rfl (sk) (sk) rfl⟩
  simp only [] at e
  subst e
  have:=ref_lt (out_inr o2)
  simp only [List.length_singleton];omega
 rintro⟨acc,q,b⟩ ⟨k1,k2,k3,k4⟩
 simp only [] at k1 k2 k3 k4
 by_cases c:Tk ws b q tComma
 ·have ql:q+1≤ws.length:=txt_lt (by rw [c.2];decide)
  refine(take_h ws q b tComma hg k1 (by decide) (by decide)).holds.useT [] [] rfl (sk) (sk) fun e0 H0 hq=>?_
  obtain⟨rfl,rfl⟩:=hq.1 c
  refine⟨rfl,_,⟨2,(0,rrO ws (q+1) false)::[(1,refsO acc)]⟩,rfl,rfl,?_⟩
  refine(rref_h ws (q+1) false hg ql).holds.useT [] [] rfl (sk) (sk) fun e0 H0 hq=>?_
  obtain⟨r,q3,b3,q3l,o3,rfl,rfl⟩:=hq
  refine⟨rfl,_,⟨2,(0,rrO ws q3 b3)::[(1,refsO acc)]⟩,rfl,rfl,?_⟩
  have hal:=k2 c.1
  refine⟨by show 0+1≤1;omega,[r.cells],rfl,?_⟩
  refine⟨by show 0+acc.length≤(acc.map Rf.cells).length;simp,acc.map Rf.cells,takeAll (by simp),by show(acc.length+1) * 48≤140737488355328;omega,(acc++[r]).map Rf.cells,by simp,?_⟩
  have hlt:b3=false→q+1<q3:=fun e=>by subst e;exact ref_lt (out_inr o3)
  have c':=c
  obtain⟨rfl,ct⟩:=c'
  exact⟨(acc++[r],q3,b3),⟨q3l,fun e=>by have:=hlt e;show(acc++[r]).length≤q3;rw [snoc_len];omega,by show(acc++[r]).length≤1501;rw [snoc_len];omega,k4.step (fun f l q' b' ho=>by rw [moreR];exact Out.yes ⟨rfl,ct⟩ (o3.then ho).mv) (fun e=>⟨by have:=hlt e;show q<q3;omega,q3l⟩)⟩,ent_of [] [(1,3)] [] rfl ⟨⟨rfl,rfl⟩,congrArg (fun k:Nat=>AV.sl 3 4 0 k) (snoc_len acc r).symm,trivial⟩ (sk) rfl,by show(if b3=true then 0 else ws.length+1 - q3)<(if false=true then 0 else ws.length+1 - q);cases b3 <;> simp <;> (try have:=hlt rfl) <;> omega⟩
 ·refine(take_h ws q b tComma hg k1 (by decide) (by decide)).holds.useT [] [] rfl (sk) (sk) fun e0 H0 hq=>?_
  obtain⟨rfl,rfl⟩:=hq.2 c
  refine⟨rfl,_,⟨2,(0,rrO ws q b)::[(1,refsO acc)]⟩,rfl,rfl,?_⟩
  exact⟨[1],[],[], .returned (.p (rfl_ acc)),rrH ws q b,rfl,⟨_,rfl,⟨_,rfl,by show 0+acc.length≤(acc.map Rf.cells).length;simp,takeAll (by simp)⟩⟩,sk,acc,q,b,k1,k4.stop (fun e f=>by rw [moreR,if_neg (fun h=>c ⟨e,h⟩)]),rfl,rfl⟩
def sgL:List (List UInt8):=[tEq,tNe,tLt,tLe]
def sg (i:Nat):List UInt8:=sgL.getD i []
theorem sg_in:∀ i,i<4→sg i∈keysL++marksL∧sg i ≠ []
 | 0,_=>by decide
 | 1,_=>by decide
 | 2,_=>by decide
 | 3,_=>by decide
 | i+4,h=>by omega
theorem rel_yes {ws:List Wd} {q:Nat}:∀ {i:Nat},i<4→(∀ j,j<i→¬ txt ws q=sg j)→txt ws q=sg i→relR ws q=.inr (((i+1:Nat):Int),q+1)
 | 0,_,_,h=>by rw [relR,if_pos (show txt ws q=tEq from h)];rfl
 | 1,_,h0,h=>by rw [relR,if_neg (show ¬ txt ws q=tEq from h0 0 (by omega)),if_pos (show txt ws q=tNe from h)];rfl
 | 2,_,h0,h=>by rw [relR,if_neg (show ¬ txt ws q=tEq from h0 0 (by omega)),if_neg (show ¬ txt ws q=tNe from h0 1 (by omega)),if_pos (show txt ws q=tLt from h)];rfl
 | 3,_,h0,h=>by rw [relR,if_neg (show ¬ txt ws q=tEq from h0 0 (by omega)),if_neg (show ¬ txt ws q=tNe from h0 1 (by omega)),if_neg (show ¬ txt ws q=tLt from h0 2 (by omega)),if_pos (show txt ws q=tLe from h)];rfl
 | i+4,h,_,_=>by omega
theorem rel_no {ws:List Wd} {q:Nat} (h0:∀ j,j<4→¬ txt ws q=sg j):relR ws q=.inl q:=by
 rw [relR,if_neg (show ¬ txt ws q=tEq from h0 0 (by omega)),if_neg (show ¬ txt ws q=tNe from h0 1 (by omega)),if_neg (show ¬ txt ws q=tLt from h0 2 (by omega)),if_neg (show ¬ txt ws q=tLe from h0 3 (by omega))]
def sgO:AObj:=⟨74,false, .bx (sgL.map fun w=>.p (.str w))⟩
theorem rrel_h (ws:List Wd) (q:Nat) (b:Bool) (hg:GoodW ws) (hq:q≤ws.length):HoldsG cx 209 [.ptr 0 0 0] (rrH ws q b) (RQ ws b q (relR ws q) fun n=>.p (i64 n)):=by
 refine holdsN_of_vc Tryz.func209 rfl rfl rfl ?_
 have hl:=hg.len
 refine⟨Nat,fun i=>[(0, .ptr 0 0 0),(3, .ptr 1 0 0),(4, .p (i64 i))],fun _=>⟨2,[(1,sgO),(0,rrO ws q b)]⟩,fun i=>i≤4∧∀ j,j<i→¬ Tk ws b q (sg j),fun i=>4 - i,?_,?_⟩
 ·exact⟨0,⟨by omega,fun j h=>by omega⟩,ent_of [] [] [] rfl (sk) (sk) rfl⟩
 rintro i ⟨i1,i2⟩
 (first | refine brLt (fun h1=>?_) (fun h1=>?_) | refine brLe (fun h1=>?_) (fun h1=>?_) | refine brEq (fun h1=>?_) (fun h1=>?_))
 ·have h1:(i:Int)<4:=h1
  have hi:i<4:=by omega
  obtain⟨s1,s2⟩:=sg_in i hi
  refine⟨by omega,?_⟩
  refine⟨.p (.str (sg i)),ldIn1 (by kernel_rfl) (by show(sgL.map fun w=>AV.p (.str w))[0+((i:Nat):Int).toNat * 1]?=some (AV.p (.str (sgL.getD i [])));rw [Int.toNat_natCast,Nat.mul_one,Nat.zero_add,List.getElem?_map,List.getD_eq_getElem?_getD,List.getElem?_eq_getElem (show i<sgL.length by exact hi)];rfl),?_⟩
  by_cases c:Tk ws b q (sg i)
  ·have q1l:q+1≤ws.length:=txt_lt (by rw [c.2];exact s2)
   refine(take_h ws q b (sg i) hg hq s1 s2).holds.useT [] [] rfl (sk) (sk) fun e0 H0 hq=>?_
   obtain⟨rfl,rfl⟩:=hq.1 c
   refine⟨rfl,_,⟨2,(0,rrO ws (q+1) false)::[(1,sgO)]⟩,rfl,rfl,?_⟩
   refine⟨((i+1:Nat):Int),by show _=IntKind.i64.wrap (1+(i:Int));rw [show(1:Int)+(i:Int)=((i+1:Nat):Int) by omega];exact wrap_i64 (by omega) (by omega),?_⟩
   refine⟨[],[],[], .returned (.p (i64 ((i+1:Nat):Int))),rrH ws (q+1) false,rfl,sk,sk,_,q+1,false,q1l,?_,rfl,rfl⟩
   obtain⟨rfl,c2⟩:=c
   show relR ws q=_
   rw [rel_yes hi (fun j hj e=>i2 j hj ⟨rfl,e⟩) c2];rfl
  ·refine(take_h ws q b (sg i) hg hq s1 s2).holds.useT [] [] rfl (sk) (sk) fun e0 H0 hq=>?_
   obtain⟨rfl,rfl⟩:=hq.2 c
   refine⟨rfl,_,⟨2,(0,rrO ws q b)::[(1,sgO)]⟩,rfl,rfl,?_⟩
   refine⟨_,wrap_i64 (by omega) (by omega),?_⟩
   refine⟨i+1,⟨by omega,fun j hj=>?_⟩,ent_of [] [] [] rfl (sk) (sk) rfl,by show 4 - (i+1)<4 - i;omega⟩
   rcases Nat.lt_or_eq_of_le (Nat.le_of_lt_succ hj) with h | h
   ·exact i2 j h
   ·rw [h];exact c
 ·have h1:¬ (i:Int)<4:=h1
  have:i=4:=by omega
  subst this
  refine⟨[],[],[], .returned (.p (i64 0)),rrH ws q true,rfl,sk,sk,0,q,true,hq,?_,rfl,rfl⟩
  cases b
  ·show relR ws q=_
   rw [rel_no (fun j hj e=>i2 j hj ⟨rfl,e⟩)];rfl
  ·exact Out.bad
def insA:List Int→Int→Bool→List Int
 | [],n,d=>if d=true then [] else [n]
 | x::l,n,d=>(if n≤x∧d=false then [n] else [])++((if x=n then [] else [x])++insA l n (d || decide (n≤x)))
theorem insA_true {n:Int}:∀ {l:List Int},(∀ y∈l,n<y)→insA l n true=l
 | [],_=>rfl
 | x::l,h=>by
  have hx:=h x (List.mem_cons_self ..)
  rw [insA,if_neg (by simp),if_neg (by omega),Bool.true_or,insA_true fun y hy=>h y (List.mem_cons_of_mem _ hy)];rfl
theorem insA_inc {n:Int}:∀ {l:List Int},Inc l→insA l n false=insN l n
 | [],_=>rfl
 | x::l,h=>by
  have h1:∀ y∈l,x<y:=(List.pairwise_cons.1 h).1
  have h2:Inc l:=(List.pairwise_cons.1 h).2
  rw [insA,insN]
  by_cases c:n<x
  ·rw [if_pos ⟨by omega,rfl⟩,if_neg (by omega),if_pos c,decide_eq_true (by omega),Bool.or_true,insA_true fun y hy=>by have:=h1 y hy;omega];rfl
  ·by_cases c2:x=n
   ·rw [if_pos ⟨by omega,rfl⟩,if_pos c2,if_neg c,if_pos c2,decide_eq_true (by omega),Bool.or_true,insA_true fun y hy=>by have:=h1 y hy;omega,c2];rfl
   ·rw [if_neg (by omega),if_neg c2,if_neg c,if_neg c2,decide_eq_false (by omega),Bool.or_false,insA_inc h2];rfl
theorem insA_step {l:List Int} {n:Int} {k:Nat} {d:Bool} (hk:k<l.length):insA (l.drop k) n d=(if n≤l.getD k 0∧d=false then [n] else [])++((if l.getD k 0=n then [] else [l.getD k 0])++insA (l.drop (k+1)) n (d || decide (n≤l.getD k 0))):=by
 rw [List.drop_eq_getElem_cons hk,insA,List.getD_eq_getElem?_getD,List.getElem?_eq_getElem hk];rfl
theorem insert_c (l:List Int) (n:Int) (hi:Inc l) (hl:l.length≤5000):Pure cx 210 [ints l,i64 n] (·=.ret [ints (insN l n)]):=by
 refine pure_of_vc Tryz.func210 rfl rfl rfl ?_
 refine⟨Nat × List Int × Bool,fun x=>[(0, .p (ints l)),(1, .p (i64 n)),(5, .sl 0 1 0 x.2.1.length),(6,vB x.2.2),(7, .p (i64 x.1))],fun x=>⟨1,[(0,iO x.2.1)]⟩,fun x=>x.1≤l.length∧x.2.1.length≤2 * x.1∧x.2.1++insA (l.drop x.1) n x.2.2=insN l n,fun x=>l.length - x.1,?_,?_⟩
 ·exact⟨(0,[],false),⟨by simp,by simp,insA_inc hi⟩,ent_of [] [] [(0,1)] rfl (sk) (sk) rfl⟩
 rintro⟨k,acc,d⟩ ⟨g1,g2,g3⟩
 simp only [] at g1 g2 g3
 (first | refine brLt (fun h1=>?_) (fun h1=>?_) | refine brLe (fun h1=>?_) (fun h1=>?_) | refine brEq (fun h1=>?_) (fun h1=>?_))
 rotate_left
 ·have h1:¬ (k:Int)<((l.map i64).length:Nat):=h1
  rw [List.length_map] at h1
  rw [List.drop_eq_nil_of_le (by omega),insA] at g3
  cases d
  ·rw [if_neg (by decide)] at g3
   refine⟨by show 0+1≤1;omega,[i64 n],rfl,?_⟩
   refine⟨by show 0+acc.length≤(acc.map i64).length;simp,acc.map i64,takeAll (by simp),by show(acc.length+1) * 8≤140737488355328;omega,(acc++[n]).map i64,by simp,?_⟩
   exact endN (ints (acc++[n])) rfl ⟨_,rfl,by show 0+(acc.length+1)≤((acc++[n]).map i64).length;simp,takeAll (by simp)⟩ (by rw [g3])
  ·rw [if_pos rfl,List.append_nil] at g3
   exact endN (ints acc) rfl ⟨_,rfl,by show 0+acc.length≤(acc.map i64).length;simp,takeAll (by simp)⟩ (by rw [g3])
 have h1:(k:Int)<((l.map i64).length:Nat):=h1
 rw [List.length_map] at h1
 have hk:k<l.length:=by omega
 rw [insA_step hk] at g3
 obtain⟨x,hx⟩:∃ x,x=l.getD k 0:=⟨_,rfl⟩
 rw [← hx] at g3
 have hc:=icell hk
 rw [← hx] at hc
 refine⟨_,⟨by omega,i64 x,hc,rfl⟩,?_⟩
 by_cases c1:n≤x∧d=false
 ·obtain⟨c1,rfl⟩:=c1
  rw [if_pos ⟨c1,rfl⟩,decide_eq_true c1,Bool.or_true] at g3
  refine And.intro (fun _=>?_) (fun h=>absurd c1 h)
  refine⟨by show 0+1≤1;omega,[i64 n],rfl,?_⟩
  refine⟨by show 0+acc.length≤(acc.map i64).length;simp,acc.map i64,takeAll (by simp),by show(acc.length+1) * 8≤140737488355328;omega,(acc++[n]).map i64,by simp,?_⟩
  refine⟨_,⟨by omega,i64 x,hc,rfl⟩,?_⟩
  refine And.intro (fun c2=>?_) (fun c2=>?_)
  ·have c2:x=n:=c2
   rw [if_pos c2] at g3
   refine⟨_,wrap_i64 (by omega) (by omega),?_⟩
   exact⟨(k+1,acc++[n],true),⟨by simp only [];omega,by simp only [snoc_len];omega,by simp only [];rw [← g3,List.append_assoc,List.nil_append]⟩,ent_of [] [(0,2)] [] rfl ⟨rfl,rfl,congrArg (fun n=>AV.sl 2 1 0 n) (snoc_len acc _).symm,rfl,rfl,trivial⟩ (sk) rfl,by show l.length - (k+1)<l.length - k;omega⟩
  ·have c2:¬ x=n:=c2
   rw [if_neg c2] at g3
   refine⟨_,⟨by omega,i64 x,hc,rfl⟩,?_⟩
   refine⟨by show 0+1≤1;omega,[i64 x],rfl,?_⟩
   refine⟨by show 0+(acc.length+1)≤((acc++[n]).map i64).length;simp,(acc++[n]).map i64,takeAll (by simp),by show(acc.length+1+1) * 8≤140737488355328;omega,(acc++[n]++[x]).map i64,by simp,?_⟩
   refine⟨_,wrap_i64 (by omega) (by omega),?_⟩
   exact⟨(k+1,acc++[n]++[x],true),⟨by simp only [];omega,by simp only [snoc_len];omega,by simp only [];rw [← g3,List.append_assoc,List.append_assoc]⟩,ent_of [] [(0,4)] [] rfl ⟨rfl,rfl,congrArg (fun n=>AV.sl 4 1 0 n) (by show acc.length+1+1=(acc++[n]++[x]).length;simp),rfl,rfl,trivial⟩ (sk) rfl,by show l.length - (k+1)<l.length - k;omega⟩
 rw [if_neg c1] at g3
 have both:(d || decide (n≤x))=d:=by
  by_cases c:n≤x
  ·have:d=true:=by
    cases d
    ·exact absurd ⟨c,rfl⟩ c1
    ·rfl
   subst this;rfl
  ·rw [decide_eq_false c,Bool.or_false]
 rw [both,List.nil_append] at g3
 cases d
 ·refine And.intro (fun h=>absurd ⟨h,rfl⟩ c1) (fun _=>?_)
  refine⟨_,⟨by omega,i64 x,hc,rfl⟩,?_⟩
  refine And.intro (fun c2=>?_) (fun c2=>?_)
  ·have c2:x=n:=c2
   rw [if_pos c2] at g3
   refine⟨_,wrap_i64 (by omega) (by omega),?_⟩
   exact⟨(k+1,acc,false),⟨by simp only [];omega,by simp only [];omega,by simp only [];rw [← g3];rfl⟩,ent_of [] [] [] rfl (sk) (sk) rfl,by show l.length - (k+1)<l.length - k;omega⟩
  ·have c2:¬ x=n:=c2
   rw [if_neg c2] at g3
   refine⟨_,⟨by omega,i64 x,hc,rfl⟩,?_⟩
   refine⟨by show 0+1≤1;omega,[i64 x],rfl,?_⟩
   refine⟨by show 0+acc.length≤(acc.map i64).length;simp,acc.map i64,takeAll (by simp),by show(acc.length+1) * 8≤140737488355328;omega,(acc++[x]).map i64,by simp,?_⟩
   refine⟨_,wrap_i64 (by omega) (by omega),?_⟩
   exact⟨(k+1,acc++[x],false),⟨by simp only [];omega,by simp only [snoc_len];omega,by simp only [];rw [← g3,List.append_assoc]⟩,ent_of [] [(0,2)] [] rfl ⟨rfl,rfl,congrArg (fun n=>AV.sl 2 1 0 n) (snoc_len acc _).symm,rfl,rfl,trivial⟩ (sk) rfl,by show l.length - (k+1)<l.length - k;omega⟩
 ·refine And.intro (fun _=>?_) (fun _=>?_)
  ·refine⟨_,⟨by omega,i64 x,hc,rfl⟩,?_⟩
   refine And.intro (fun c2=>?_) (fun c2=>?_)
   ·have c2:x=n:=c2
    rw [if_pos c2] at g3
    refine⟨_,wrap_i64 (by omega) (by omega),?_⟩
    exact⟨(k+1,acc,true),⟨by simp only [];omega,by simp only [];omega,by simp only [];rw [← g3];rfl⟩,ent_of [] [] [] rfl (sk) (sk) rfl,by show l.length - (k+1)<l.length - k;omega⟩
   ·have c2:¬ x=n:=c2
    rw [if_neg c2] at g3
    refine⟨_,⟨by omega,i64 x,hc,rfl⟩,?_⟩
    refine⟨by show 0+1≤1;omega,[i64 x],rfl,?_⟩
    refine⟨by show 0+acc.length≤(acc.map i64).length;simp,acc.map i64,takeAll (by simp),by show(acc.length+1) * 8≤140737488355328;omega,(acc++[x]).map i64,by simp,?_⟩
    refine⟨_,wrap_i64 (by omega) (by omega),?_⟩
    exact⟨(k+1,acc++[x],true),⟨by simp only [];omega,by simp only [snoc_len];omega,by simp only [];rw [← g3,List.append_assoc]⟩,ent_of [] [(0,2)] [] rfl ⟨rfl,rfl,congrArg (fun n=>AV.sl 2 1 0 n) (snoc_len acc _).symm,rfl,rfl,trivial⟩ (sk) rfl,by show l.length - (k+1)<l.length - k;omega⟩
  ·refine⟨_,⟨by omega,i64 x,hc,rfl⟩,?_⟩
   refine And.intro (fun c2=>?_) (fun c2=>?_)
   ·have c2:x=n:=c2
    rw [if_pos c2] at g3
    refine⟨_,wrap_i64 (by omega) (by omega),?_⟩
    exact⟨(k+1,acc,true),⟨by simp only [];omega,by simp only [];omega,by simp only [];rw [← g3];rfl⟩,ent_of [] [] [] rfl (sk) (sk) rfl,by show l.length - (k+1)<l.length - k;omega⟩
   ·have c2:¬ x=n:=c2
    rw [if_neg c2] at g3
    refine⟨_,⟨by omega,i64 x,hc,rfl⟩,?_⟩
    refine⟨by show 0+1≤1;omega,[i64 x],rfl,?_⟩
    refine⟨by show 0+acc.length≤(acc.map i64).length;simp,acc.map i64,takeAll (by simp),by show(acc.length+1) * 8≤140737488355328;omega,(acc++[x]).map i64,by simp,?_⟩
    refine⟨_,wrap_i64 (by omega) (by omega),?_⟩
    exact⟨(k+1,acc++[x],true),⟨by simp only [];omega,by simp only [snoc_len];omega,by simp only [];rw [← g3,List.append_assoc]⟩,ent_of [] [(0,2)] [] rfl ⟨rfl,rfl,congrArg (fun n=>AV.sl 2 1 0 n) (snoc_len acc _).symm,rfl,rfl,trivial⟩ (sk) rfl,by show l.length - (k+1)<l.length - k;omega⟩
theorem inL_mem {l:List (List UInt8)} {s:List UInt8} (h:inL l s=true):s∈l:=by
 induction l with
 | nil=>simp [inL] at h
 | cons x r ih=>
  simp only [inL,Bool.or_eq_true,decide_eq_true_eq] at h
  rcases h with rfl | h
  ·simp
  ·exact List.mem_cons_of_mem _ (ih h)
theorem right_len {k:Int} {t:List UInt8} (h:rightN k t=true):1≤t.length∧t.length≤10:=by
 have ne:∀ {t:List UInt8},t ≠ []→1≤t.length:=by intro t ht;cases t <;> simp at ht ⊢
 unfold rightN at h
 split at h
 ·simp [nameN] at h;exact⟨ne h.1.1.1.1,h.1.1.1.2⟩
 ·split at h
  ·exact(by decide:∀ t∈keysL,1≤t.length∧t.length≤10) t (inL_mem h)
  ·split at h
   ·simp [numN] at h
    exact⟨ne h.1.1.1,by omega⟩
   ·split at h
    ·exact(by decide:∀ t∈marksL,1≤t.length∧t.length≤10) t (inL_mem h)
    ·cases h
structure JS where
 k:Nat
 a:Nat
 b:Nat
 lg:Nat
 n:Nat
 xs:List UInt8
 pre:List UInt8
structure JI where
 a:Nat
 b:Nat
 n:Nat
 xs:List UInt8
def tenL:List UInt8:=[48,49,50,51,52,53,54,55,56,57]
def digN:Nat→Nat→List UInt8
 | 0,_=>[]
 | f+1,n=>if n<10 then [tenL.getD n 0] else digN f (n / 10)++[tenL.getD (n % 10) 0]
structure Dr where
 kind:UInt8
 which:UInt8
 letters:List UInt8
 n:UInt16
 down:UInt8
 over:UInt8
abbrev Dr.cells (d:Dr):List PV:=[u8 d.kind,u8 d.which, .lst (d.letters.map u8), .int .u16 (d.n.toNat:Int),u8 d.down,u8 d.over]
def newL (d:Dr):Prop:=0<d.down.toNat % 3∧d.down.toNat<100
instance (d:Dr):Decidable (newL d):=inferInstanceAs (Decidable (_∧_))
structure WS where
 k:Nat
 a:Nat
 b:Nat
 out:List Wd
def isBl (c:UInt8):Prop:=c.toNat=32∨c.toNat=10
def stopB (r:List UInt8):Bool:=match r with
 | []=>true
 | c::_=>!(decide (c.toNat=32) || decide (c.toNat=10)) && !List.isPrefixOf [45,45] r && !List.isPrefixOf [40,42] r
def Skips (g r:List UInt8):Prop:=∀ f,(g++r).length≤f→skipN f (g++r)=.inl g.length
theorem spanN_all {f:UInt8→Bool} {t:List UInt8}:spanN f t=t.length ↔ ∀ c∈t,f c=true:=by
 induction t with
 | nil=>simp [spanN]
 | cons c t ih=>
  have hl:=spanN_le f t
  simp only [spanN,List.length_cons]
  by_cases h:f c=true
  ·rw [if_pos h]
   constructor
   ·intro e x hx
    rcases List.mem_cons.1 hx with rfl | hx
    ·exact h
    ·exact ih.1 (by omega) x hx
   ·intro e;rw [ih.2 fun x hx=>e x (by simp [hx])]
  ·rw [if_neg h]
   constructor
   ·intro e;omega
   ·intro e;exact absurd (e c (by simp)) h
def isSep (c:UInt8):Prop:=isBl c∨c.toNat=40
inductive Fol:List UInt8→List UInt8→Prop
 | nil (a:List UInt8):Fol a []
 | bl (a:List UInt8) (c:UInt8) (b:List UInt8) (h:isSep c):Fol a (c::b)
 | same (c:UInt8) (a b:List UInt8):Fol (c::a) (c::b)
inductive Lay:Nat × Nat→List UInt8→List Wd→List UInt8→Prop
 | nil (p:Nat × Nat) (suf:List UInt8):Lay p [] [] suf
 | cons {p:Nat × Nat} {g T:List UInt8} {w:Wd} {ws:List Wd} {suf:List UInt8} {l c:Nat} (hsk:Skips g (w.text++(T++suf))) (h1:oneN (w.text++(T++suf))=(w.kind,w.text)) (hr:rightN w.kind w.text=true)
   (hp:advs p g=(l,c)) (hl:w.line=l) (hc:w.col=c) (h:Lay (l,c+w.text.length) T ws suf):Lay p (g++(w.text++T)) (w::ws) suf
theorem Lay.len {p:Nat × Nat} {T:List UInt8} {ws:List Wd} {suf:List UInt8} (h:Lay p T ws suf):ws.length≤T.length:=by
 induction h with
 | nil=>simp
 | cons hsk h1 hr hp hl hc h ih=>
  have:=right_len hr
  simp only [List.length_cons,List.length_append]
  omega
abbrev Toks:=List (List UInt8)
def digT (n:Int):List UInt8:=digN 4 n.toNat
def intT (n:Int):Toks:=if n<0 then [tMinus,digT (-n)] else [digT n]
def tailT (r:Rf):Toks:=if r.mode=3 then [tLB,tAll,tRB] else if r.mode=2 then [tLB,digT r.n,tRB] else if r.mode=1 then(if 0<r.n then [tLB,r.plate,tPlus,digT r.n,tRB] else [tLB,r.plate,tRB]) else []
def refT (r:Rf):Toks:=r.name::tailT r
def sepT {α:Type} (f:α→Toks):List α→Toks
 | []=>[]
 | a::r=>f a++r.flatMap fun b=>tComma::f b
def relT (k:Int):List UInt8:=if k=1 then tEq else if k=2 then tNe else if k=3 then tLt else tLe
def lvl (op:Int):Nat:=if op=9 then 1 else if op=8 then 2 else if op=7 then 3 else 4
def inT (k:Nat) (p:Int × Toks):Toks:=if lvl p.1<k then tLP::(p.2++[tRP]) else p.2
def leafT (op n rel val:Int) (r:Rf) (st:List Int):Toks:=
 if op=6 then [tCount,tLP]++(refT r++[tEq,digT val,tRP,relT rel,digT n])
 else if op=5 then refT r++([tIn,tLC]++(sepT (fun n=>[digT n]) st++[tRC]))
 else refT r++[relT op,digT n]
def joinT (op n rel val:Int) (r:Rf) (st:List Int) (ps:List (Int × Toks)):Toks:=
 if op=9 then inT 1 (ps.getD 0 (0,[]))++tOr::inT 2 (ps.getD 1 (0,[]))
 else if op=8 then inT 2 (ps.getD 0 (0,[]))++tAnd::inT 3 (ps.getD 1 (0,[]))
 else if op=7 then tNot::inT 3 (ps.getD 0 (0,[]))
 else leafT op n rel val r st
def Cd.op:Cd→Int
 | .mk op _ _ _ _ _ _=>op
mutual
def condT:Cd→Toks
 | .mk op n rel val r st ar=>joinT op n rel val r st (condTs ar)
def condTs:List Cd→List (Int × Toks)
 | []=>[]
 | c::r=>(c.op,condT c)::condTs r
end
def withinT (k:Nat) (c:Cd):Toks:=inT k (c.op,condT c)
def numsT (l:List Int):Toks:=l.flatMap intT
def casesTx:List Cs→Toks
 | []=>[]
 | [c]=>tElse::tCol::numsT c.nums
 | c::d::r=>condT c.cond++(tCol::(numsT c.nums++(tSemi::casesTx (d::r))))
def ruleT (l:List Cs):Toks:=tLC::(casesTx l++[tRC])
def refsT (key:List UInt8) (l:List Rf):Toks:=if l=[] then [] else key::sepT refT l
def headT (d:De):Toks:=
 if d.kind=1 then [tGrain,digT d.n] else if d.kind=2 then [tPlate,d.name,tEq,digT d.n]
 else if d.kind=3 then [tNode,d.name]++((if d.plate=[] then [] else [tLB,d.plate,tRB])++([tCol,digT d.n]++(refsT tFrom d.refs++(tEq::ruleT d.cases))))
 else if d.kind=4 then [tChoose,d.name,tCol,digT d.n]++refsT tSeeing d.refs
 else if d.kind=5 then tGain::(refsT tFrom d.refs++(tEq::ruleT d.cases)) else []
def declT (d:De):Toks:=headT d++[tSemi]
def spW:Bool→Toks→List UInt8
 | _,[]=>[]
 | b,w::r=>(if b then [32] else [])++(w++spW true r)
def lineT (d:De):List UInt8:=spW false (declT d)++[10]
def textT (ds:List De):List UInt8:=ds.flatMap lineT
def cntT (ds:List De):Nat:=(ds.map fun d=>(declT d).length).sum
def txtV (ds:List De):List PV:=if validB ds=true then(if (textT ds).length≤8000∧cntT ds≤1500 then [.str (textT ds),i64 0] else [.str [],i64 3]) else [.str [],i64 380]
end Go.Proofs.YtohfoaplnjcihaaGreatDoor
namespace Go.Proofs.YtohfoaplnjcihaaGreatDoor.Y
open Go
section
variable {C:Cx}
theorem holdsD_of_vc {f : FuncId} {fn : Func} {c : Code} {args : List AV} {u : Md} {H : Hp} {Q : AE → Md → Hp → Prop} (hf : C.P.funcs[f]? = some fn) (hname : (fn.name == "runtime.NumGoroutine") = false) (hb : fn.body = some c)
  (hN:(Nat.ble args.length fn.ntmps && dataM u)=true)
  (hv:vc C none H.next fn.ntmps c (sets (fun _=>und) (argS 0 args)) [] H (FinD C fn.results.toList H.next u Q)):HoldsD C f args u H Q:=by
 intro Γ w args' m hR hA hM
 simp only [Bool.and_eq_true] at hN
 obtain⟨n1,hdata⟩:=hN
 refine⟨run_enter hf hname hb _ _,trivial,fun c₀ cs hu _=>?_⟩
 let b:Frame:={ (default:Frame) with fn:=f,kind:=.deferred,roundOf:=none }
 have hbf:(C.P.funcs[b.fn]?).isSome=true:=by show(C.P.funcs[f]?).isSome=true;rw [hf];rfl
 have henter:Frame.enter C.P f ⟨args'⟩ .deferred=b.atR { tmps:=(⟨args'⟩:Array Value)++Array.replicate (fn.ntmps - args'.length) undef,defers:=[] } [.code c]:=by
  simp [Frame.enter,Frame.atR,hf,hb,b]
 have hc:({ c₀ with mode:=m }:Frame)=c₀:=by subst hu;rfl
 have hS:=entry_SR (n:=fn.ntmps) hA (Nat.le_of_ble_eq_true n1)
 obtain⟨e2,a2,w2,⟨e,σ2,ds2,H2,Γ2,hQ2,hX2,hS2,hL2⟩,harr2⟩:=vc_sound (rn:=none) (n0:=H.next) hbf c _ [] H _ Γ _ w (Nat.le_refl _) rfl hR hS hv [] (c₀::cs)
 have hle:=hL2.le hR
 have hmr2:=MR_mono hle hM
 unfold FinD at hQ2
 split at hQ2 <;> try exact hQ2.elim
 have hdf:=hS2.df
 simp only [DRL] at hdf
 rw [← henter] at harr2
 have ret:∀ (fr:Frame),fr={ b.atR a2 [] with mode:=.returning }∨(∃ todo,fr={ b.atR a2 todo with mode:=.returning })→resV C σ2 H2 fn.results.toList (fun vs=>EndN H.next (fun e H'=>Q e u H') (.returned (tupA vs)) H2) →
   StepsIn (Machine.fenced C.P (Fz none)) C.P (lone (Frame.enter C.P f ⟨args'⟩ .deferred) (c₀::cs) w) (lone fr (c₀::cs) w2) →
   ∃ e u' w' fr,PostD C Γ H w Q e u' w'∧ComesIn (Machine.fenced C.P (Fz none)) C.P (lone (Frame.enter C.P f ⟨args'⟩ .deferred) (c₀::cs) w) (lone fr ({ c₀ with mode:=u' }::cs) w') e∧fr.kind=.deferred∧fr.fn=f∧fr.going C.P w' e:=by
  intro fr hfr hr hs
  obtain⟨vs,vs',k1,k2,k3⟩:=resV_sound hL2.1 hS2 hr
  refine⟨.returned (tup vs'),m,w2,fr,PostD_gc hdata k1 ⟨_,rfl,VR_tup k2⟩ hmr2 hL2,by rw [hc];exact hs,?_,?_,?_⟩
  ·rcases hfr with rfl | ⟨todo,rfl⟩ <;> rfl
  ·rcases hfr with rfl | ⟨todo,rfl⟩ <;> rfl
  ·rcases hfr with rfl | ⟨todo,rfl⟩ <;> exact⟨rfl,hdf,fn,hf,run_results k3⟩
 cases e with
 | normal=>
  simp only [XR] at hX2;subst hX2
  exact ret _ (.inl rfl) hQ2 (StepsIn.trans harr2 (.one (fenced_any _) (stepR_end rfl)))
 | ret=>
  simp only [XR] at hX2;subst hX2
  obtain⟨todo,hs⟩:=harr2.1 rfl
  exact ret _ (.inr ⟨todo,rfl⟩) hQ2 hs
 | panic ch=>
  simp only [XR] at hX2
  obtain⟨ch',rfl,hp⟩:=hX2
  obtain⟨todo,hs⟩:=harr2
  exact⟨.panicked ch',m,w2,_,PostD_gc hdata hQ2 ⟨ch',rfl,hp⟩ hmr2 hL2,by rw [hc];exact hs,rfl,rfl,rfl,hdf,fn,hf⟩
 | exit i=>exact hQ2.elim
 | goto i=>exact hQ2.elim
end
end Go.Proofs.YtohfoaplnjcihaaGreatDoor.Y
namespace Go.Proofs.YtohfoaplnjcihaaGreatDoor.Y
open Go
section
variable {C:Cx}
theorem HoldsD.useT {g:FuncId} {args0 args:List AV} {n0:Nat} {L0:List (Nat × AObj)} {H:Hp} {Q0:AE→Hp→Prop} {Q1:AE→Md→Hp→Prop} (h:HoldsD C g args0 .ret ⟨n0,L0⟩ fun e u H'=>u=.ret∧Q0 e H') (fs:List Nat) (ps:List (Nat × Nat))
  (hb:(marksOK H.l fs && (List.range n0).all (fun n=>Nat.blt (look ps n) H.next) && injOn (rmap 0 ps n0 H.next) [] L0)=true)
  (hH:SeeH (rmap 0 ps n0 H.next) [] (marks H.l fs) 0 L0) (hA0:SeeL (rmap 0 ps n0 H.next) [] (marks H.l fs) args args0)
  (hQ1:∀ e0 H0',Q0 e0 H0'→nodupK H0'.l=true∧∃ e H2,renE (rmap 0 ps n0 H.next) e0=e∧mrg (rmap 0 ps n0 H.next) n0 L0 (H.mrk fs) H0'=H2∧Q1 e .ret H2):HoldsD C g args .ret H Q1:=by
 have hQ:∀ e0 H0',Q0 e0 H0'→nodupK H0'.l=true∧(fun e H2=>Q1 e .ret H2) (renE (rmap 0 ps n0 H.next) e0) (mrg (rmap 0 ps n0 H.next) n0 L0 (H.mrk fs) H0'):=fun e0 H0' hq=>by
  obtain⟨h1,e,H2,rfl,rfl,h2⟩:=hQ1 e0 H0' hq
  exact⟨h1,h2⟩
 obtain⟨Q,hQd⟩:∃ Q:AE→Hp→Prop,Q=fun e H2=>Q1 e .ret H2:=⟨_,rfl⟩
 rw [← hQd] at hQ
 intro Γ0 w args' m hR0 hA hM
 simp only [Bool.and_eq_true] at hb
 obtain⟨⟨b1,b2⟩,b3⟩:=hb
 obtain⟨Γ,e1,hLm⟩:=hR0.mark b1
 have hR:=hLm.1
 have hA:=VRL_mono (hLm.le hR0) _ _ hA
 have hlt:∀ n,n<n0→rmap 0 ps n0 H.next n<H.next:=by
  intro n hn
  unfold rmap
  rw [show Nat.blt n 0=false from rfl]
  rw [show Nat.blt n n0=true by simpa using hn]
  have:=List.all_eq_true.1 b2 n (List.mem_range.2 hn)
  simpa using this
 have hge:∀ n,n0≤n→rmap 0 ps n0 H.next n=n - n0+H.next:=fun n hn=>rmap_new (Nat.zero_le _) hn
 have hsee:=R.see (H1:=⟨n0,L0⟩) (ρ:=rmap 0 ps n0 H.next) (ni:=[]) (n0:=0) hR hH (injOn_spec b3) rfl (fun n h=>by omega) (Nat.zero_le _) (fun n h=>by rw [hge n h];show H.next≤_;omega)
 have hA1:=SeeL_sound hR _ _ _ hA0 hA
 have key:∀ e w',Post C (Γ.see (rmap 0 ps n0 H.next) []) ⟨n0,L0⟩ w Q0 e w'→Post C Γ (H.mrk fs) w Q e w':=by
  rintro e' w' ⟨e0,H0',Γc,h1,h2,hL⟩
  obtain⟨hnd,hq⟩:=hQ e0 H0' h1
  obtain⟨h3,h4,h5,h6⟩:=hL
  simp only at h4 h5
  let Γ':Gm:=⟨fun m=>if m<H.next then Γ.nm m else Γc.nm (m - H.next+n0),Γc.fz⟩
  have hnm:∀ n,Γ'.nm (rmap 0 ps n0 H.next n)=Γc.nm n:=by
   intro n
   by_cases hn:n<n0
   ·simp only [Γ',if_pos (hlt n hn)]
    rw [h4 n hn]
    rfl
   ·have hn':=hge n (by omega)
    simp only [Γ']
    rw [hn',if_neg (by omega)]
    congr 1
    omega
  have hle:Γ.le Γ':=by
   refine⟨fun n q hq=>?_,h6.fz⟩
   have hn:n<H.next:=by
    rcases Nat.lt_or_ge n H.next with h1 | h1
    ·exact h1
    ·rw [hR.fresh n h1] at hq;cases hq
   simp only [Γ',if_pos hn]
   exact hq
  have hOwn0:∀ k,Own (Γ.see (rmap 0 ps n0 H.next) []) ⟨n0,L0⟩ k→Own Γ (H.mrk fs) k:=fun k hk=>by
   rcases hsee.2.2.2.prov k hk with h1 | h1
   ·exact absurd (Own.blk_lt hsee.1 hk) (by omega)
   ·exact h1
  -- an owned block of the callee's is not one of the frame
  have hframe:∀ m o q,imgs (rmap 0 ps n0 H.next) L0 m=false→lget (H.mrk fs).l m=some o→Γ.nm m=some q→q.nl=false→q.blk<w.heap.size∧¬ Own (Γ.see (rmap 0 ps n0 H.next) []) ⟨n0,L0⟩ q.blk:=by
   intro m o q hno hm hq hnl
   obtain⟨q',e1,e2⟩:=hR.objs m o hm
   rw [hq] at e1;injection e1 with e1;subst e1
   refine⟨e2.blk_lt hnl,?_⟩
   rintro⟨n,o0,q0,k1,k2,k3,k4,k5⟩
   have hso:=SeeH_get hH k1
   unfold SeeO at hso
   simp only [niGet] at hso
   obtain⟨oc,j1,j2,j3,j4⟩:=hso
   have hne:=imgs_spec hno (lget_mem k1)
   exact hR.apart _ oc m o q0 q j1 hm hne k3 hq (by rw [j3];exact k2) k4 hnl k5
  have hwh:∀ m o,lget (mrg (rmap 0 ps n0 H.next) n0 L0 (H.mrk fs) H0').l m=some o→(∃ n o',m=rmap 0 ps n0 H.next n∧lget H0'.l n=some o'∧isCells o'.c=true∧o=renO (rmap 0 ps n0 H.next) o')∨(imgs (rmap 0 ps n0 H.next) L0 m=false∧lget (H.mrk fs).l m=some o):=by
   intro m o hm
   rcases lget_append hm with h1 | h1
   ·obtain⟨n,o',k1,k2,k3,k4⟩:=mem_renH h1
    exact .inl ⟨n,o',k3,nodupK_get hnd k1,k2,k4⟩
   ·exact .inr (lget_rest h1)
  have hfrq:∀ m o q,imgs (rmap 0 ps n0 H.next) L0 m=false→lget (H.mrk fs).l m=some o→Γ'.nm m=some q→Γ.nm m=some q:=by
   intro m o q _ hm hq
   obtain⟨q',e1,_⟩:=hR.objs m o hm
   have:=hle.nm _ _ e1
   rw [hq] at this
   rw [this];exact e1
  -- a block of the callee's that the heap owns,or that is not written any more,is none of an owned object of the frame
  have hblk:∀ n o' qc m o q,lget H0'.l n=some o'→Γc.nm n=some qc→qc.nl=false→imgs (rmap 0 ps n0 H.next) L0 m=false→lget (H.mrk fs).l m=some o→Γ.nm m=some q→q.nl=false→(o'.fr=false∨o.fr=false)→isCells o'.c=true→qc.blk ≠ q.blk:=by
   intro n o' qc m o q k1 k2 k3 k4 k5 k6 k7 k8 k9 e
   obtain⟨l1,l2⟩:=hframe m o q k4 k5 k6 k7
   cases hfr:o'.fr with
   | false=>
    rcases h6.prov qc.blk ⟨n,o',qc,k1,hfr,k2,k3,rfl⟩ with c1 | c1
    ·omega
    ·exact l2 (e ▸ c1)
   | true=>
    have hof:o.fr=false:=by
     rcases k8 with k8 | k8
     ·rw [hfr] at k8;cases k8
     ·exact k8
    obtain⟨qx,x1,x2⟩:=h3.objs n o' k1
    rw [k2] at x1;injection x1 with x1;subst x1
    rcases (ObjR_cells k9).1 x2 with ⟨y,_⟩ | ⟨_,us,rr,z,g1,g2,g3,g3',g4,g5,g6,g7,g8⟩
    ·rw [k3] at y;cases y
    ·rcases h6.fzprov _ _ (g8 hfr) with c1 | c1 | c1
     ·have c1':Γ.fz qc.blk=some _:=c1
      rw [e,hR.own m o q k5 hof k6 k7] at c1'
      cases c1'
     ·omega
     ·exact l2 (e ▸ c1)
  refine⟨_,_,Γ',hq,ER_ren hnm rfl h2,⟨h3.glob,fun n hn=>?_,h3.fzok,fun m o hm=>?_,fun m o q hm hf hq1 hnl=>?_,fun m o m' o' q q' hm hm' hne hq1 hq2 hf hnl hnl'=>?_⟩,fun m hm=>by have hm:m<H.next:=hm;simp only [Γ',if_pos hm],by show H.next≤H.next+_;omega,⟨h6.os,h6.tape,h6.output,h6.size,fun k hk hno=>h6.kept k hk (fun e=>hno (hOwn0 k e)),fun k hk=>?_,h6.fz,fun k a hk=>?_⟩⟩
  ·have hn:H.next+(H0'.next - n0)≤n:=hn
   simp only [Γ',if_neg (show ¬ n<H.next by omega)]
   exact h3.fresh _ (by omega)
  ·rcases hwh m o hm with ⟨n,o',rfl,k2,k3,rfl⟩ | ⟨k1,k2⟩
   ·obtain⟨q,x1,x2⟩:=h3.objs n o' k2
    exact⟨q,by rw [hnm];exact x1,renO_sound hnm rfl k3 x2⟩
   ·obtain⟨q,x1,x2⟩:=hR.objs m o k2
    refine⟨q,hle.nm _ _ x1,x2.ext hle fun hnl=>?_⟩
    obtain⟨l1,l2⟩:=hframe m o q k1 k2 x1 hnl
    exact h6.kept _ l1 l2
  ·rcases hwh m o hm with ⟨n,o',rfl,k2,k3,rfl⟩ | ⟨k1,k2⟩
   ·rw [hnm] at hq1
    exact h3.own n o' q k2 hf hq1 hnl
   ·have hq2:=hfrq m o q k1 k2 hq1
    have h0:=hR.own m o q k2 hf hq2 hnl
    obtain⟨l1,l2⟩:=hframe m o q k1 k2 hq2 hnl
    cases hx:Γc.fz q.blk with
    | none=>rfl
    | some a=>
     rcases h6.fzprov _ _ hx with c1 | c1 | c1
     ·have c1':Γ.fz q.blk=some _:=c1
      rw [h0] at c1';cases c1'
     ·omega
     ·exact(l2 c1).elim
  ·rcases hwh m o hm with ⟨n,o1,rfl,k2,k3,rfl⟩ | ⟨k1,k2⟩
   ·rw [hnm] at hq1
    rcases hwh m' o' hm' with ⟨n',o2,rfl,j2,j3,rfl⟩ | ⟨j1,j2⟩
    ·rw [hnm] at hq2
     exact h3.apart n o1 n' o2 q q' k2 j2 (fun e=>hne (by rw [e])) hq1 hq2 hf hnl hnl'
    ·exact hblk n o1 q m' o' q' k2 hq1 hnl j1 j2 (hfrq _ _ _ j1 j2 hq2) hnl' (.inl hf) k3
   ·have hq1':=hfrq m o q k1 k2 hq1
    rcases hwh m' o' hm' with ⟨n',o2,rfl,j2,j3,rfl⟩ | ⟨j1,j2⟩
    ·rw [hnm] at hq2
     exact Ne.symm (hblk n' o2 q' m o q j2 hq2 hnl' k1 k2 hq1' hnl (.inr hf) j3)
    ·exact hR.apart m o m' o' q q' k2 j2 hne hq1' (hfrq _ _ _ j1 j2 hq2) hf hnl hnl'
  ·obtain⟨m,o,q,k1,k2,k3,k4,rfl⟩:=hk
   rcases hwh m o k1 with ⟨n,o1,rfl,j2,j3,rfl⟩ | ⟨j1,j2⟩
   ·rw [hnm] at k3
    rcases h6.prov q.blk ⟨n,o1,q,j2,k2,k3,k4,rfl⟩ with c1 | c1
    ·exact .inl c1
    ·exact .inr (hOwn0 _ c1)
   ·exact .inr ⟨m,o,q,j2,k2,hfrq _ _ _ j1 j2 k3,k4,rfl⟩
  ·rcases h6.fzprov k a hk with c1 | c1 | c1
   ·exact .inl c1
   ·exact .inr (.inl c1)
   ·exact .inr (.inr (hOwn0 _ c1))
 have fin:∀ e w',Post C (Γ.see (rmap 0 ps n0 H.next) []) ⟨n0,L0⟩ w Q0 e w'→Post C Γ0 H w Q e w':=by
  intro e w' hP
  obtain⟨e0,H',Γ',k1,k2,k3⟩:=key e w' hP
  exact⟨e0,H',Γ',k1,k2,hLm.trans (k3.mono hLm.2.2.1)⟩
 have hM:m=.returning:=hM
 subst hM
 obtain⟨h1,h2⟩:=h _ w args' .returning hsee.1 hA1 rfl
 refine⟨h1,h2.mono fun e' m' w' hP=>?_⟩
 obtain⟨e0,u,H',Γ',⟨rfl,k1⟩,k2,k3,k4⟩:=hP
 have k3:m'=.returning:=k3
 subst k3
 obtain⟨e1,H1,Γ1,j1,j2,j3⟩:=fin e' w' ⟨e0,H',Γ',k1,k2,k4⟩
 rw [hQd] at j1
 exact⟨e1, .ret,H1,Γ1,j1,j2,rfl,j3⟩
end
end Go.Proofs.YtohfoaplnjcihaaGreatDoor.Y
namespace Go.Proofs.YtohfoaplnjcihaaGreatDoor
open Go Y
set_option maxRecDepth 100000
set_option maxHeartbeats 4000000
abbrev TWr:TypeId:=108
structure Wst where
 s:List UInt8
 n:Nat
 b:Bool
def Wst.sz (st:Wst):Nat:=st.n+st.s.length
def put1 (st:Wst) (x:List UInt8):Wst:=⟨(st.s++(if st.b then [32] else []))++x,st.n+1,true⟩
def puts (st:Wst) (l:Toks):Wst:=l.foldl put1 st
def endW (st:Wst):Wst:=⟨st.s++[10],st.n,false⟩
def wt:Toks→Nat
 | []=>0
 | x::l=>x.length+2+wt l
theorem wt_app:∀ a b:Toks,wt (a++b)=wt a+wt b
 | [],b=>by simp [wt]
 | x::a,b=>by rw [List.cons_append,wt,wt,wt_app a b];omega
theorem put1_sz (st:Wst) (x:List UInt8):(put1 st x).sz≤st.sz+(x.length+2):=by
 have h3:(if st.b=true then [32] else []:List UInt8).length≤1:=by cases st.b <;> simp
 show st.n+1+((st.s++(if st.b then [32] else []))++x).length≤st.n+st.s.length+_
 rw [List.length_append,List.length_append];omega
theorem puts_nil (st:Wst):puts st []=st:=rfl
theorem puts_cons (st:Wst) (x:List UInt8) (l:Toks):puts st (x::l)=puts (put1 st x) l:=rfl
theorem puts_app (st:Wst) (a b:Toks):puts st (a++b)=puts (puts st a) b:=List.foldl_append
theorem puts_sz:∀ (l:Toks) (st:Wst),(puts st l).sz≤st.sz+wt l
 | [],st=>Nat.le_refl _
 | x::l,st=>by
  have h1:=puts_sz l (put1 st x)
  have h2:=put1_sz st x
  rw [puts_cons,wt];omega
theorem puts_spW:∀ (l:Toks) (st:Wst),(puts st l).s=st.s++spW st.b l∧(puts st l).n=st.n+l.length∧(puts st l).b=(st.b || decide (l ≠ []))
 | [],st=>by simp [puts_nil,spW]
 | x::l,st=>by
  obtain⟨h1,h2,h3⟩:=puts_spW l (put1 st x)
  refine⟨?_,?_,?_⟩
  ·rw [puts_cons,h1,spW];simp [put1]
  ·rw [puts_cons,h2];simp [put1];omega
  ·rw [puts_cons,h3];simp [put1]
def wOu (u:Bool) (k:Nat) (st:Wst):AObj:=⟨TWr,false, .bx [au u, .sl k 1 0 st.s.length, .p (i64 st.n), .p (.bool st.b)]⟩
abbrev wO (k:Nat) (st:Wst):AObj:=⟨TWr,false, .bx [.ptr 0 0 0, .sl k 1 0 st.s.length, .p (i64 st.n), .p (.bool st.b)]⟩
def bO (s:List UInt8):AObj:=⟨5,false, .pu (s.map ub)⟩
abbrev wH (u:Bool) (st:Wst):Hp:=⟨2,[(1,bO st.s),(0,wOu u 1 st)]⟩
abbrev wH' (st:Wst):Hp:=⟨3,[(2,bO st.s),(0,wO 2 st)]⟩
theorem lies_w:liesAt cx.P cx.P.depth TWr 1 0 TB 1=true:=by kernel_rfl
theorem conv_w (cs:List AV) (lk:Nat→Option AObj) (h:lk 0=some ⟨TWr,false, .bx cs⟩):popConv cx.P 214 104 (.ptr 0 0 0) lk=.val (.ptr 0 0 0):=by
 have h1:cx.P.underlying 214=some .unsafePointer:=rfl
 have h2:cx.P.underlying 104=some (.pointer TB):=rfl
 obtain⟨z,h3⟩:∃ z,szOf cx.P TB=some (z+1):=⟨_,rfl⟩
 unfold popConv
 rw [h1,h2]
 simp only []
 rw [h,h3]
 simp [lies_w]
theorem copyW_c (u:Bool) (v a b:AV):HoldsG cx 108 [.ptr 0 0 0] ⟨2,[(0,⟨TWr,false, .bx [au u,v,a,b]⟩)]⟩ fun e H'=>e=.returned und∧H'=⟨2,[(0,⟨TWr,false, .bx [.ptr 0 0 0,v,a,b]⟩)]⟩:=by
 refine holds_of_vc Tryz.func108 rfl rfl rfl ?_
 cases u
 ·refine noEscape_c ?_
  conv=>whnf
  generalize hz:pop cx.P (.convert _ _ _) _ _=z
  rw [show z=.val (.ptr 0 0 0) from hz.symm.trans (conv_w [.p .nilp,v,a,b] (lget [(0,⟨TWr,false, .bx [.p .nilp,v,a,b]⟩)]) rfl)]
  exact⟨rfl,rfl⟩
 ·exact⟨rfl,rfl⟩
def wB (st:Wst) (x:List UInt8):Wst:=⟨st.s++x,st.n,st.b⟩
theorem byteW_c (u:Bool) (st:Wst) (b:UInt8) (hx:st.sz≤100000000):HoldsG cx 73 [.ptr 0 0 0, .p (u8 b)] (wH u st) fun e H'=>e=.returned (.p .nilIface)∧H'=wH' (wB st [b]):=by
 obtain⟨s,n,g⟩:=st
 have hx:n+s.length≤100000000:=hx
 refine holdsN_of_vc Tryz.func73 rfl rfl rfl ?_
 refine(copyW_c u (.sl 1 1 0 s.length) (.p (i64 n)) (.p (.bool g))).useE [] [] rfl ?_ ?_ ?_
 ·cases u <;> (exact sk)
 ·(exact sk)
 ·refine⟨by show 0+1≤_;simp,[ub b],rfl,?_⟩
  refine⟨by show 0+s.length≤(s.map ub).length;simp,s.map ub,takeUb s,by show(s.length+1) * 1≤_;omega,(s++[b]).map ub,by simp,?_⟩
  exact⟨[],[(2,3)],[], .returned (.p .nilIface),⟨3,[(2,bO (s++[b])),(0,⟨TWr,false, .bx [.ptr 0 0 0, .sl 2 1 0 (s.length+1), .p (i64 n), .p (.bool g)]⟩)]⟩,rfl,⟨_,rfl,rfl⟩,sk,rfl,by simp [wH',wB,wO]⟩
theorem strW_c (u:Bool) (st:Wst) (x:List UInt8) (hx:st.sz≤100000000) (hs:x.length≤100000000):HoldsG cx 64 [.ptr 0 0 0,vS x] (wH u st) fun e H'=>e=.returned (.tup [.p (i64 x.length), .p .nilIface])∧H'=wH' (wB st x):=by
 obtain⟨s,n,g⟩:=st
 have hx:n+s.length≤100000000:=hx
 refine holdsN_of_vc Tryz.func64 rfl rfl rfl ?_
 refine(copyW_c u (.sl 1 1 0 s.length) (.p (i64 n)) (.p (.bool g))).useE [] [] rfl ?_ ?_ ?_
 ·cases u <;> (exact sk)
 ·(exact sk)
 ·refine⟨by show 0+s.length≤(s.map ub).length;simp,s.map ub,takeUb s,by show(s.length+x.length) * 1≤_;omega,(s++x).map ub,by simp,?_⟩
  exact⟨[],[(2,2)],[], .returned (.tup [.p (i64 x.length), .p .nilIface]),⟨3,[(2,bO (s++x)),(0,⟨TWr,false, .bx [.ptr 0 0 0, .sl 2 1 0 (s.length+x.length), .p (i64 n), .p (.bool g)]⟩)]⟩,rfl,⟨_,rfl,_,rfl,sk⟩,sk,rfl,by simp [wH',wB,wO]⟩
def WQ (st:Wst) (e:AE) (H':Hp):Prop:=e=.returned und∧H'=wH' st
theorem end_h (st:Wst) (hx:st.sz≤100000000):HoldsG cx 43 [.ptr 0 0 0] (wH true st) (WQ (endW st)):=by
 refine holdsN_of_vc Tryz.func43 rfl rfl rfl ?_
 refine(byteW_c true st 10 hx).holds.useT [] [] rfl (sk) (sk) fun e0 H0 hq=>?_
 obtain⟨rfl,rfl⟩:=hq
 refine⟨rfl,_,⟨3,[(2,bO (st.s++[10])),(0,wO 2 (wB st [10]))]⟩,rfl,rfl,?_⟩
 exact⟨[],[],[], .returned und,wH' (endW st),rfl,sk,sk,rfl,rfl⟩
theorem skcell {l:Toks} {k:Nat} (h:k<l.length):(l.map PV.str)[k]?=some (.str (l.getD k [])):=by
 rw [List.getElem?_map,List.getElem?_eq_getElem h,List.getD_eq_getElem?_getD,List.getElem?_eq_getElem h];rfl
theorem wt_take {l:Toks} {k:Nat} (h:k<l.length):wt (l.take k)+(l.getD k []).length+2≤wt l:=by
 have e:l=l.take k++l.getD k []::l.drop (k+1):=by
  rw [List.getD_eq_getElem?_getD,List.getElem?_eq_getElem h]
  show l=l.take k++l[k]::l.drop (k+1)
  rw [← List.drop_eq_getElem_cons h,List.take_append_drop]
 conv=>rhs;rw [e]
 rw [wt_app,wt];omega
theorem len_wt:∀ l:Toks,l.length≤wt l
 | []=>Nat.le_refl _
 | x::l=>by have:=len_wt l;rw [wt,List.length_cons];omega
def sU (l:Toks):AObj:=⟨TStr,false, .pu (l.map PV.str)⟩
theorem put_h (u:Bool) (st:Wst) (l:Toks) (h0:0<l.length) (hb:st.sz+wt l≤100000000):HoldsG cx 70 [.ptr 0 0 0, .sl 2 1 0 l.length] ⟨3,[(2,sU l),(1,bO st.s),(0,wOu u 1 st)]⟩ fun e H'=>e=.returned und∧H'=⟨4,[(3,bO (puts st l).s),(0,wO 3 (puts st l))]⟩:=by
 refine holdsN_of_vc Tryz.func70 rfl rfl rfl ?_
 refine⟨Wst × Nat × Bool,fun x=>[(0, .ptr 0 0 0),(6, .sl 2 1 0 l.length),(7, .p (i64 l.length)),(8, .p (i64 x.2.1))],fun x=>⟨4,[(2,sU l),(3,bO x.1.s),(0,wOu x.2.2 3 x.1)]⟩,fun x=>x.2.1≤l.length∧(0<x.2.1→x.2.2=true)∧x.1=puts st (l.take x.2.1),fun x=>l.length - x.2.1,?_,?_⟩
 ·exact⟨(st,0,u),⟨by simp,fun h=>absurd h (by simp),rfl⟩,ent_of [] [(3,1)] [] rfl (sk) (by cases u <;> (exact sk)) rfl⟩
 rintro⟨⟨s,n,b⟩,k,u⟩ ⟨k1,k2,k3⟩
 simp only [] at k1 k2 k3
 have hsz:=puts_sz (l.take k) st
 rw [← k3] at hsz
 have hsz:n+s.length≤st.sz+wt (l.take k):=hsz
 by_cases hk:k<l.length
 rotate_left
 ·have hu:=k2 (by omega)
  subst hu
  have e:puts st l=⟨s,n,b⟩:=by rw [k3,take_all (by omega)]
  refine And.intro (fun h=>absurd (show(k:Int)<(l.length:Nat) from h) (by omega)) (fun _=>?_)
  rw [e]
  exact⟨[],[(3,3)],[], .returned und,⟨4,[(3,bO s),(0,wO 3 ⟨s,n,b⟩)]⟩,rfl,sk,sk,rfl,rfl⟩
 have hw:=wt_take hk
 have hlw:=len_wt l
 have e:puts st (l.take (k+1))=put1 ⟨s,n,b⟩ (l.getD k []):=by rw [take_succ_getD [] hk,puts_app,← k3];rfl
 obtain⟨x,hx⟩:∃ x,x=l.getD k []:=⟨_,rfl⟩
 have hc:(l.map PV.str)[0+((k:Nat):Int).toNat]?=some (.str (l.getD k [])):=by rw [Int.toNat_natCast,Nat.zero_add];exact skcell hk
 rw [← hx] at e hw hc
 clear k2 k3
 cases b
 ·refine And.intro (fun _=>?_) (fun h=>absurd (show(k:Int)<(l.length:Nat) by omega) h)
  refine⟨by omega,_,⟨.str x,hc,rfl⟩,?_⟩
  refine(strW_c u ⟨s,n,true⟩ x (by show n+s.length≤_;omega) (by omega)).holds.useT [] [(1,3)] rfl (by cases u <;> (exact sk)) (sk) fun e0 H0 hq=>?_
  obtain⟨rfl,rfl⟩:=hq
  refine⟨rfl,_,⟨5,[(4,bO (s++x)),(0,wO 4 (wB ⟨s,n,true⟩ x)),(2,sU l)]⟩,rfl,rfl,?_⟩
  refine⟨((n:Nat):Int)+1,wrap_i64 (by omega) (by omega),?_⟩
  refine⟨((k:Nat):Int)+1,wrap_i64 (by omega) (by omega),?_⟩
  exact⟨(⟨s++x,n+1,true⟩,k+1,true),⟨hk,fun _=>rfl,by rw [e];simp [put1]⟩,ent_of [] [(3,4)] [] rfl (sk) (sk) rfl,by show l.length - (k+1)<l.length - k;omega⟩
 ·refine And.intro (fun _=>?_) (fun h=>absurd (show(k:Int)<(l.length:Nat) by omega) h)
  refine⟨by omega,_,⟨.str x,hc,rfl⟩,?_⟩
  refine(byteW_c u ⟨s,n,true⟩ 32 (by show n+s.length≤_;omega)).holds.useT [] [(1,3)] rfl (by cases u <;> (exact sk)) (sk) fun e0 H0 hq=>?_
  obtain⟨rfl,rfl⟩:=hq
  refine⟨rfl,_,⟨5,[(4,bO (s++[32])),(0,wO 4 (wB ⟨s,n,true⟩ [32])),(2,sU l)]⟩,rfl,rfl,?_⟩
  refine(strW_c true ⟨s++[32],n,true⟩ x (by show n+(s++[32]).length≤_;simp;omega) (by omega)).holds.useT [] [(1,4)] rfl (sk) (sk) fun e0 H0 hq=>?_
  obtain⟨rfl,rfl⟩:=hq
  refine⟨rfl,_,⟨6,[(5,bO ((s++[32])++x)),(0,wO 5 (wB ⟨s++[32],n,true⟩ x)),(2,sU l)]⟩,rfl,rfl,?_⟩
  refine⟨((n:Nat):Int)+1,wrap_i64 (by omega) (by omega),?_⟩
  refine⟨((k:Nat):Int)+1,wrap_i64 (by omega) (by omega),?_⟩
  exact⟨(⟨(s++[32])++x,n+1,true⟩,k+1,true),⟨hk,fun _=>rfl,by rw [e];simp [put1]⟩,ent_of [] [(3,5)] [] rfl (sk) (sk) rfl,by show l.length - (k+1)<l.length - k;omega⟩
theorem putd_h (u:Bool) (st:Wst) (l:Toks) (h0:0<l.length) (hb:st.sz+wt l≤100000000):HoldsD cx 70 [.ptr 0 0 0, .sl 2 1 0 l.length] .ret ⟨3,[(2,sU l),(1,bO st.s),(0,wOu u 1 st)]⟩ fun e m H'=>m=.ret∧(e=.returned und∧H'=⟨4,[(3,bO (puts st l).s),(0,wO 3 (puts st l))]⟩):=by
 refine holdsD_of_vc Tryz.func70 rfl rfl rfl ?_
 refine⟨Wst × Nat × Bool,fun x=>[(0, .ptr 0 0 0),(6, .sl 2 1 0 l.length),(7, .p (i64 l.length)),(8, .p (i64 x.2.1))],fun x=>⟨4,[(2,sU l),(3,bO x.1.s),(0,wOu x.2.2 3 x.1)]⟩,fun x=>x.2.1≤l.length∧(0<x.2.1→x.2.2=true)∧x.1=puts st (l.take x.2.1),fun x=>l.length - x.2.1,?_,?_⟩
 ·exact⟨(st,0,u),⟨by simp,fun h=>absurd h (by simp),rfl⟩,ent_of [] [(3,1)] [] rfl (sk) (by cases u <;> (exact sk)) rfl⟩
 rintro⟨⟨s,n,b⟩,k,u⟩ ⟨k1,k2,k3⟩
 simp only [] at k1 k2 k3
 have hsz:=puts_sz (l.take k) st
 rw [← k3] at hsz
 have hsz:n+s.length≤st.sz+wt (l.take k):=hsz
 by_cases hk:k<l.length
 rotate_left
 ·have hu:=k2 (by omega)
  subst hu
  have e:puts st l=⟨s,n,b⟩:=by rw [k3,take_all (by omega)]
  refine And.intro (fun h=>absurd (show(k:Int)<(l.length:Nat) from h) (by omega)) (fun _=>?_)
  rw [e]
  exact⟨[],[(3,3)],[], .returned und,⟨4,[(3,bO s),(0,wO 3 ⟨s,n,b⟩)]⟩,rfl,sk,sk,rfl,rfl,rfl⟩
 have hw:=wt_take hk
 have hlw:=len_wt l
 have e:puts st (l.take (k+1))=put1 ⟨s,n,b⟩ (l.getD k []):=by rw [take_succ_getD [] hk,puts_app,← k3];rfl
 obtain⟨x,hx⟩:∃ x,x=l.getD k []:=⟨_,rfl⟩
 have hc:(l.map PV.str)[0+((k:Nat):Int).toNat]?=some (.str (l.getD k [])):=by rw [Int.toNat_natCast,Nat.zero_add];exact skcell hk
 rw [← hx] at e hw hc
 clear k2 k3
 cases b
 ·refine And.intro (fun _=>?_) (fun h=>absurd (show(k:Int)<(l.length:Nat) by omega) h)
  refine⟨by omega,_,⟨.str x,hc,rfl⟩,?_⟩
  refine(strW_c u ⟨s,n,true⟩ x (by show n+s.length≤_;omega) (by omega)).holds.useT [] [(1,3)] rfl (by cases u <;> (exact sk)) (sk) fun e0 H0 hq=>?_
  obtain⟨rfl,rfl⟩:=hq
  refine⟨rfl,_,⟨5,[(4,bO (s++x)),(0,wO 4 (wB ⟨s,n,true⟩ x)),(2,sU l)]⟩,rfl,rfl,?_⟩
  refine⟨((n:Nat):Int)+1,wrap_i64 (by omega) (by omega),?_⟩
  refine⟨((k:Nat):Int)+1,wrap_i64 (by omega) (by omega),?_⟩
  exact⟨(⟨s++x,n+1,true⟩,k+1,true),⟨hk,fun _=>rfl,by rw [e];simp [put1]⟩,ent_of [] [(3,4)] [] rfl (sk) (sk) rfl,by show l.length - (k+1)<l.length - k;omega⟩
 ·refine And.intro (fun _=>?_) (fun h=>absurd (show(k:Int)<(l.length:Nat) by omega) h)
  refine⟨by omega,_,⟨.str x,hc,rfl⟩,?_⟩
  refine(byteW_c u ⟨s,n,true⟩ 32 (by show n+s.length≤_;omega)).holds.useT [] [(1,3)] rfl (by cases u <;> (exact sk)) (sk) fun e0 H0 hq=>?_
  obtain⟨rfl,rfl⟩:=hq
  refine⟨rfl,_,⟨5,[(4,bO (s++[32])),(0,wO 4 (wB ⟨s,n,true⟩ [32])),(2,sU l)]⟩,rfl,rfl,?_⟩
  refine(strW_c true ⟨s++[32],n,true⟩ x (by show n+(s++[32]).length≤_;simp;omega) (by omega)).holds.useT [] [(1,4)] rfl (sk) (sk) fun e0 H0 hq=>?_
  obtain⟨rfl,rfl⟩:=hq
  refine⟨rfl,_,⟨6,[(5,bO ((s++[32])++x)),(0,wO 5 (wB ⟨s++[32],n,true⟩ x)),(2,sU l)]⟩,rfl,rfl,?_⟩
  refine⟨((n:Nat):Int)+1,wrap_i64 (by omega) (by omega),?_⟩
  refine⟨((k:Nat):Int)+1,wrap_i64 (by omega) (by omega),?_⟩
  exact⟨(⟨(s++[32])++x,n+1,true⟩,k+1,true),⟨hk,fun _=>rfl,by rw [e];simp [put1]⟩,ent_of [] [(3,5)] [] rfl (sk) (sk) rfl,by show l.length - (k+1)<l.length - k;omega⟩
end Go.Proofs.YtohfoaplnjcihaaGreatDoor
namespace Go.Proofs
open Go.Shelf
def Tryz.laysM171_ren:Go.Shelf.Ren:=⟨fun | 171=>69 | 243=>113 | 246=>157 | 283=>181 | 284=>182 | 285=>183 | 286=>184 | 129=>198 | 317=>197 | 318=>199 | 319=>200 | 320=>201 | 337=>204 | 338=>205 | n=>n,fun | 3=>3 | 9=>9 | 2=>2 | 4=>4 | 171=>233 | 0=>0 | 53=>190 | 37=>40 | 5=>5 | 173=>236 | 212=>245 | 51=>187 | 20=>20 | 213=>246 | 46=>144 | 232=>252 | 233=>253 | n=>n,fun | 17=>5 | 18=>6 | 19=>7 | n=>n⟩
theorem Tryz.laysM171:Go.Proofs.LaysM.n171 Tryz.prog Tryz.laysM171_ren:={
 mixed:=by kernel_rfl
 f129:=Tryz.func198.trans (congrArg some (by kernel_rfl))
 f171:=Tryz.func69.trans (congrArg some (by kernel_rfl))
 f243:=Tryz.func113.trans (congrArg some (by kernel_rfl))
 f246:=Tryz.func157.trans (congrArg some (by kernel_rfl))
 f283:=Tryz.func181.trans (congrArg some (by kernel_rfl))
 f284:=Tryz.func182.trans (congrArg some (by kernel_rfl))
 f285:=Tryz.func183.trans (congrArg some (by kernel_rfl))
 f286:=Tryz.func184.trans (congrArg some (by kernel_rfl))
 f317:=Tryz.func197.trans (congrArg some (by kernel_rfl))
 f318:=Tryz.func199.trans (congrArg some (by kernel_rfl))
 f319:=Tryz.func200.trans (congrArg some (by kernel_rfl))
 f320:=Tryz.func201.trans (congrArg some (by kernel_rfl))
 f337:=Tryz.func204.trans (congrArg some (by kernel_rfl))
 f338:=Tryz.func205.trans (congrArg some (by kernel_rfl))
 t0:=Tryz.underlying0
 a0:=Tryz.isAgg0
 z0:=Tryz.sizeOf0
 v0:=Tryz.zeroValue0
 t2:=Tryz.underlying2
 a2:=Tryz.isAgg2
 z2:=Tryz.sizeOf2
 v2:=Tryz.zeroValue2
 t3:=Tryz.underlying3
 a3:=Tryz.isAgg3
 z3:=Tryz.sizeOf3
 v3:=Tryz.zeroValue3
 t4:=Tryz.underlying4
 a4:=Tryz.isAgg4
 z4:=Tryz.sizeOf4
 v4:=Tryz.zeroValue4
 t5:=Tryz.underlying5
 a5:=Tryz.isAgg5
 z5:=Tryz.sizeOf5
 v5:=Tryz.zeroValue5
 t9:=Tryz.underlying9
 a9:=Tryz.isAgg9
 z9:=Tryz.sizeOf9
 v9:=Tryz.zeroValue9
 t20:=Tryz.underlying20
 a20:=Tryz.isAgg20
 z20:=Tryz.sizeOf20
 v20:=Tryz.zeroValue20
 t37:=Tryz.underlying40
 a37:=Tryz.isAgg40
 z37:=Tryz.sizeOf40
 v37:=Tryz.zeroValue40
 t46:=Tryz.underlying144
 a46:=Tryz.isAgg144
 z46:=Tryz.sizeOf144
 v46:=Tryz.zeroValue144
 t51:=Tryz.underlying187
 a51:=Tryz.isAgg187
 z51:=Tryz.sizeOf187
 v51:=Tryz.zeroValue187
 t53:=Tryz.underlying190
 a53:=Tryz.isAgg190
 z53:=Tryz.sizeOf190
 v53:=Tryz.zeroValue190
 t171:=Tryz.underlying233
 a171:=Tryz.isAgg233
 z171:=Tryz.sizeOf233
 v171:=Tryz.zeroValue233
 t173:=Tryz.underlying236
 a173:=Tryz.isAgg236
 z173:=Tryz.sizeOf236
 v173:=Tryz.zeroValue236
 t212:=Tryz.underlying245
 a212:=Tryz.isAgg245
 z212:=Tryz.sizeOf245
 v212:=Tryz.zeroValue245
 t213:=Tryz.underlying246
 a213:=Tryz.isAgg246
 z213:=Tryz.sizeOf246
 t232:=Tryz.underlying252
 a232:=Tryz.isAgg252
 z232:=Tryz.sizeOf252
 v232:=Tryz.zeroValue252
 t233:=Tryz.underlying253
 a233:=Tryz.isAgg253
 z233:=Tryz.sizeOf253
 v233:=Tryz.zeroValue253
 g17:=by kernel_rfl
 g18:=by kernel_rfl
 g19:=by kernel_rfl
 i0:=by kernel_rfl
 i2:=by kernel_rfl
 i3:=by kernel_rfl
 i4:=by kernel_rfl
 i5:=by kernel_rfl
 i9:=by kernel_rfl
 i20:=by kernel_rfl
 i37:=by kernel_rfl
 i46:=by kernel_rfl
 i51:=by kernel_rfl
 i53:=by kernel_rfl
 i171:=by kernel_rfl
 i173:=by kernel_rfl
 i212:=by kernel_rfl
 i232:=by kernel_rfl
 i233:=by kernel_rfl
 m17:=by kernel_rfl
 m18:=by kernel_rfl
 m19:=by kernel_rfl }
open Go.RowKit Go.Sort Go.Lib in
theorem Tryz.strconv_Itoa (n : Int) (h0 : -9223372036854775808 ≤ n) (h1 : n ≤ 9223372036854775807) (w : World) (htab : Lib.TabIs Tryz.prog w "internal/strconv.uint64pow10" .u64 Lib.pow10Tab) :
  Calls Tryz.prog 69 #[.int .i64 n] w fun e w'=>e=.returned (.string ⟨(Lib.itoa n).toArray⟩)∧∃ k os,w'=grow (w.drewN k) os:=Any.strconv_Itoa Tryz.laysM171 n h0 h1 w htab
end Go.Proofs
namespace Go.Proofs.YtohfoaplnjcihaaGreatDoor
open Go Y RowKit
set_option maxRecDepth 100000
set_option maxHeartbeats 4000000
theorem later_below {Γ:Gm} {w w':World} (hR:R cx Γ ⟨0,[]⟩ w) (hb:Below w.heap.size w w'):Later cx 0 Γ ⟨0,[]⟩ w Γ ⟨0,[]⟩ w':=by
 have hfz:∀ b arr,Γ.fz b=some arr→∃ t z,w'.heap[b]?=some (.cells ⟨arr⟩ t z):=by
  intro b arr h
  obtain⟨t,z,e⟩:=hR.fzok b arr h
  have hlt:b<w.heap.size:=by
   rcases Nat.lt_or_ge b w.heap.size with h1 | h1
   ·exact h1
   ·rw [Array.getElem?_eq_none h1] at e;cases e
  exact⟨t,z,by rw [hb.block b hlt];exact e⟩
 refine⟨⟨hR.glob,hR.fresh,hfz,fun n o hn=>by simp [lget] at hn,fun n o q hn=>by simp [lget] at hn,fun n o m p q q' hn=>by simp [lget] at hn⟩,Ext.refl _ _,Nat.le_refl _,⟨hb.os,hb.tape,hb.output,hb.size,fun k hk _=>hb.block k hk,fun k hk=>.inr hk,Fzn.le_refl _,fun k a h=>.inl h⟩⟩
theorem pure_below {g : FuncId} {fn : Func} {c : Code} {args : List PV} {x : PV} (hf : cx.P.funcs[g]? = some fn) (hname : (fn.name == "runtime.NumGoroutine") = false) (hbd : fn.body = some c) (hx : Res [] 5 (.p x) x)
  (h:∀ (Γ:Gm) (w:World) (args':List Value),R cx Γ ⟨0,[]⟩ w→VRL Γ (args.map .p) args'→∃ v',VP Γ.fz x v'∧Calls cx.P g ⟨args'⟩ w fun e w'=>e=.returned v'∧Below w.heap.size w w'):Pure cx g args (·=.ret [x]):=by
 intro Γ w args' hR hA
 obtain⟨v',h1,h2⟩:=h Γ w args' hR hA
 refine .inl ⟨run_enter hf hname hbd _ _,h2.mono fun e w' ⟨he,hw⟩=>?_⟩
 subst he
 exact⟨.returned (.p x),⟨0,[]⟩,Γ,⟨.ret [x],⟨rfl,_,rfl,hx⟩,rfl⟩,⟨v',rfl,h1⟩,later_below hR hw⟩
theorem vpl_tab {fz:Fzn} {k:IntKind}:∀ (l:List Int) (us:List Value),VPL fz (l.map fun z=>PV.int k z) us→us=l.map fun z=>Value.int k z
 | [],us,h=>by simpa only [List.map,VPL] using h
 | z::l,us,h=>by
  simp only [List.map,VPL,VP] at h
  obtain⟨u,us',rfl,rfl,h⟩:=h
  rw [vpl_tab l us' h];rfl
theorem pow10_is {Γ : Gm} {w : World} (hR : R cx Γ ⟨0, []⟩ w) : Lib.TabIs Tryz.prog w "internal/strconv.uint64pow10" .u64 Lib.pow10Tab := by
 obtain⟨h,arr',ha,hlen⟩:=hR.glob 5 (pow10L.map fun z=>PV.int .u64 z) rfl
 simp only [VP] at h
 obtain⟨b,o,arr,us,h1,h2,h5,pre,post,h3,h4,_⟩:=h
 injection h1 with h1
 injection h1 with h1
 injection h1 with hb ho
 subst hb ho
 have hus:=vpl_tab _ _ h5
 have hp:pre=[]:=List.eq_nil_of_length_eq_zero h4
 subst hp
 have e1:arr'=arr:=by rw [ha] at h2;injection h2
 subst e1
 have hpost:post=[]:=by
  apply List.eq_nil_of_length_eq_zero
  rw [h3,hus] at hlen
  simp only [List.length_append,List.length_map,List.length_nil] at hlen
  omega
 subst hpost
 obtain⟨t,z,e⟩:=hR.fzok _ _ h2
 have hg : Tryz.prog.globalNamed "internal/strconv.uint64pow10" = some 5 := by kernel_rfl
 unfold Lib.TabIs World.var?
 rw [hg]
 simp only [Option.bind,e,h3,hus,List.nil_append,List.append_nil]
 rfl
theorem ten_of:∀ n,n<10→UInt8.ofNat (48+n)=tenL.getD n 0:=by decide
theorem dec_dig:∀ (f n:Nat),n<10 ^ (f+1)→Lib.decDigits n=digN (f+1) n
 | f,n,h=>by
  rw [Lib.decDigits,digN]
  by_cases c:n<10
  ·rw [dif_pos c,if_pos c,ten_of n c]
  ·rw [dif_neg c,if_neg c]
   obtain⟨g,rfl⟩:∃ g,f=g+1:=by
    cases f with
    | zero=>exfalso;omega
    | succ g=>exact⟨g,rfl⟩
   rw [dec_dig g (n / 10) (by rw [Nat.pow_succ] at h;omega),ten_of (n % 10) (by omega)]
theorem itoa_c (n:Int) (h:natB n=true):Pure cx 69 [i64 n] (·=.ret [.str (digT n)]):=by
 simp only [natB,Bool.and_eq_true,decide_eq_true_eq] at h
 refine pure_below Tryz.func69 rfl rfl rfl fun Γ w args' hR hA=>?_
 simp only [List.map,VRL,VR,VP] at hA
 obtain⟨a,as',rfl,rfl,rfl⟩:=hA
 have e:Lib.itoa n=digT n:=by
  rw [Lib.itoa,if_neg (by omega),dec_dig 3 n.toNat (by show n.toNat<10000;omega)];rfl
 have hi:=Tryz.strconv_Itoa n (by omega) (by omega) w (pow10_is hR)
 rw [e] at hi
 refine⟨_,rfl,hi.mono fun e w' ⟨h1,k,os,h2⟩=>⟨h1,?_⟩⟩
 subst h2
 exact⟨rfl,rfl,rfl,by show w.heap.size≤(w.heap++os).size;rw [Array.size_append];omega,fun j hj=>by show(w.heap++os)[j]?=_;rw [Array.getElem?_append_left hj]⟩
end Go.Proofs.YtohfoaplnjcihaaGreatDoor
namespace Go.Proofs.YtohfoaplnjcihaaGreatDoor
open Go Y
set_option maxRecDepth 100000
set_option maxHeartbeats 4000000
theorem ref_w (st:Wst) (r:Rf) (hr:refB r=true) (hb:st.sz+wt (refT r)≤100000000):HoldsG cx 114 [.ptr 0 0 0, .p r.pv] (wH true st) (WQ (puts st (refT r))):=by
 obtain⟨nm,m,pl,n⟩:=r
 rw [refB,Bool.and_eq_true] at hr
 obtain⟨hn,hr⟩:=hr
 simp only [] at hr hn
 by_cases h3:m=3
 ·subst h3
  have e:refT ⟨nm,3,pl,n⟩=([]++[nm])++[tLB,tAll,tRB]:=rfl
  rw [e] at hb ⊢
  refine holdsN_of_vc Tryz.func114 rfl rfl rfl ?_
  refine(put_h true (puts st ([])) ([nm]) (by simp) (by have hz:=puts_sz ([]) st;simp only [wt_app,wt] at hb hz ⊢;omega)).holds.useT [] [(2,3)] rfl (sk) (sk) fun e0 H0 hq=>?_
  rw [← puts_app] at hq
  obtain⟨rfl,rfl⟩:=hq
  refine⟨rfl,_,⟨5,((4,bO (puts st ([]++[nm])).s)::(0,wO 4 (puts st ([]++[nm])))::[(2,rO ⟨nm,3,pl,n⟩)])⟩,rfl,rfl,?_⟩
  refine And.intro (fun h=>absurd (show(3:Int)=1 from h) (by decide)) (fun _=>?_)
  refine And.intro (fun h=>absurd (show(3:Int)=2 from h) (by decide)) (fun _=>?_)
  refine And.intro (fun _=>?_) (fun h=>absurd rfl h)
  refine(put_h true (puts st ([]++[nm])) ([tLB,tAll,tRB]) (by simp) (by have hz:=puts_sz ([]++[nm]) st;simp only [wt_app,wt] at hb hz ⊢;omega)).holds.useT [] [(1,4),(2,5)] rfl (sk) (sk) fun e0 H0 hq=>?_
  rw [← puts_app] at hq
  obtain⟨rfl,rfl⟩:=hq
  refine⟨rfl,_,⟨7,((6,bO (puts st ([]++[nm]++[tLB,tAll,tRB])).s)::(0,wO 6 (puts st ([]++[nm]++[tLB,tAll,tRB])))::[(2,rO ⟨nm,3,pl,n⟩)])⟩,rfl,rfl,?_⟩
  exact⟨[],[(2,6)],[], .returned und,_,rfl,sk,sk,rfl,rfl⟩
 by_cases h2:m=2
 ·subst h2
  have hr:(decide (pl=[]) && natB n)=true:=hr
  simp only [Bool.and_eq_true] at hr
  have e:refT ⟨nm,2,pl,n⟩=([]++[nm])++[tLB,digT n,tRB]:=rfl
  rw [e] at hb ⊢
  refine holdsN_of_vc Tryz.func114 rfl rfl rfl ?_
  refine(put_h true (puts st ([])) ([nm]) (by simp) (by have hz:=puts_sz ([]) st;simp only [wt_app,wt] at hb hz ⊢;omega)).holds.useT [] [(2,3)] rfl (sk) (sk) fun e0 H0 hq=>?_
  rw [← puts_app] at hq
  obtain⟨rfl,rfl⟩:=hq
  refine⟨rfl,_,⟨5,((4,bO (puts st ([]++[nm])).s)::(0,wO 4 (puts st ([]++[nm])))::[(2,rO ⟨nm,2,pl,n⟩)])⟩,rfl,rfl,?_⟩
  refine And.intro (fun h=>absurd (show(2:Int)=1 from h) (by decide)) (fun _=>?_)
  refine And.intro (fun _=>?_) (fun h=>absurd rfl h)
  refine(itoa_c n hr.2).eq rfl ?_
  refine(put_h true (puts st ([]++[nm])) ([tLB,digT n,tRB]) (by simp) (by have hz:=puts_sz ([]++[nm]) st;simp only [wt_app,wt] at hb hz ⊢;omega)).holds.useT [] [(1,4),(2,5)] rfl (sk) (sk) fun e0 H0 hq=>?_
  rw [← puts_app] at hq
  obtain⟨rfl,rfl⟩:=hq
  refine⟨rfl,_,⟨7,((6,bO (puts st ([]++[nm]++[tLB,digT n,tRB])).s)::(0,wO 6 (puts st ([]++[nm]++[tLB,digT n,tRB])))::[(2,rO ⟨nm,2,pl,n⟩)])⟩,rfl,rfl,?_⟩
  exact⟨[],[(2,6)],[], .returned und,_,rfl,sk,sk,rfl,rfl⟩
 by_cases h1:m=1
 ·subst h1
  have hr:(nameN pl && natB n)=true:=hr
  simp only [Bool.and_eq_true] at hr
  by_cases h0:0<n
  ·have e:refT ⟨nm,1,pl,n⟩=((([]++[nm])++[tLB,pl])++[tPlus,digT n])++[tRB]:=by simp [refT,tailT,h0]
   rw [e] at hb ⊢
   refine holdsN_of_vc Tryz.func114 rfl rfl rfl ?_
   refine(put_h true (puts st ([])) ([nm]) (by simp) (by have hz:=puts_sz ([]) st;simp only [wt_app,wt] at hb hz ⊢;omega)).holds.useT [] [(2,3)] rfl (sk) (sk) fun e0 H0 hq=>?_
   rw [← puts_app] at hq
   obtain⟨rfl,rfl⟩:=hq
   refine⟨rfl,_,⟨5,((4,bO (puts st ([]++[nm])).s)::(0,wO 4 (puts st ([]++[nm])))::[(2,rO ⟨nm,1,pl,n⟩)])⟩,rfl,rfl,?_⟩
   refine And.intro (fun _=>?_) (fun h=>absurd rfl h)
   refine(put_h true (puts st ([]++[nm])) ([tLB,pl]) (by simp) (by have hz:=puts_sz ([]++[nm]) st;simp only [wt_app,wt] at hb hz ⊢;omega)).holds.useT [] [(1,4),(2,5)] rfl (sk) (sk) fun e0 H0 hq=>?_
   rw [← puts_app] at hq
   obtain⟨rfl,rfl⟩:=hq
   refine⟨rfl,_,⟨7,((6,bO (puts st ([]++[nm]++[tLB,pl])).s)::(0,wO 6 (puts st ([]++[nm]++[tLB,pl])))::[(2,rO ⟨nm,1,pl,n⟩)])⟩,rfl,rfl,?_⟩
   refine And.intro (fun _=>?_) (fun h=>absurd h0 h)
   refine(itoa_c n hr.2).eq rfl ?_
   refine(put_h true (puts st (([]++[nm])++[tLB,pl])) ([tPlus,digT n]) (by simp) (by have hz:=puts_sz (([]++[nm])++[tLB,pl]) st;simp only [wt_app,wt] at hb hz ⊢;omega)).holds.useT [] [(1,6),(2,7)] rfl (sk) (sk) fun e0 H0 hq=>?_
   rw [← puts_app] at hq
   obtain⟨rfl,rfl⟩:=hq
   refine⟨rfl,_,⟨9,((8,bO (puts st (([]++[nm])++[tLB,pl]++[tPlus,digT n])).s)::(0,wO 8 (puts st (([]++[nm])++[tLB,pl]++[tPlus,digT n])))::[(2,rO ⟨nm,1,pl,n⟩)])⟩,rfl,rfl,?_⟩
   refine(put_h true (puts st ((([]++[nm])++[tLB,pl])++[tPlus,digT n])) ([tRB]) (by simp) (by have hz:=puts_sz ((([]++[nm])++[tLB,pl])++[tPlus,digT n]) st;simp only [wt_app,wt] at hb hz ⊢;omega)).holds.useT [] [(1,8),(2,9)] rfl (sk) (sk) fun e0 H0 hq=>?_
   rw [← puts_app] at hq
   obtain⟨rfl,rfl⟩:=hq
   refine⟨rfl,_,⟨11,((10,bO (puts st ((([]++[nm])++[tLB,pl])++[tPlus,digT n]++[tRB])).s)::(0,wO 10 (puts st ((([]++[nm])++[tLB,pl])++[tPlus,digT n]++[tRB])))::[(2,rO ⟨nm,1,pl,n⟩)])⟩,rfl,rfl,?_⟩
   exact⟨[],[(2,10)],[], .returned und,_,rfl,sk,sk,rfl,rfl⟩
  ·have e:refT ⟨nm,1,pl,n⟩=(([]++[nm])++[tLB,pl])++[tRB]:=by simp [refT,tailT,h0]
   rw [e] at hb ⊢
   refine holdsN_of_vc Tryz.func114 rfl rfl rfl ?_
   refine(put_h true (puts st ([])) ([nm]) (by simp) (by have hz:=puts_sz ([]) st;simp only [wt_app,wt] at hb hz ⊢;omega)).holds.useT [] [(2,3)] rfl (sk) (sk) fun e0 H0 hq=>?_
   rw [← puts_app] at hq
   obtain⟨rfl,rfl⟩:=hq
   refine⟨rfl,_,⟨5,((4,bO (puts st ([]++[nm])).s)::(0,wO 4 (puts st ([]++[nm])))::[(2,rO ⟨nm,1,pl,n⟩)])⟩,rfl,rfl,?_⟩
   refine And.intro (fun _=>?_) (fun h=>absurd rfl h)
   refine(put_h true (puts st ([]++[nm])) ([tLB,pl]) (by simp) (by have hz:=puts_sz ([]++[nm]) st;simp only [wt_app,wt] at hb hz ⊢;omega)).holds.useT [] [(1,4),(2,5)] rfl (sk) (sk) fun e0 H0 hq=>?_
   rw [← puts_app] at hq
   obtain⟨rfl,rfl⟩:=hq
   refine⟨rfl,_,⟨7,((6,bO (puts st ([]++[nm]++[tLB,pl])).s)::(0,wO 6 (puts st ([]++[nm]++[tLB,pl])))::[(2,rO ⟨nm,1,pl,n⟩)])⟩,rfl,rfl,?_⟩
   refine And.intro (fun h=>absurd h h0) (fun _=>?_)
   refine(put_h true (puts st (([]++[nm])++[tLB,pl])) ([tRB]) (by simp) (by have hz:=puts_sz (([]++[nm])++[tLB,pl]) st;simp only [wt_app,wt] at hb hz ⊢;omega)).holds.useT [] [(1,6),(2,7)] rfl (sk) (sk) fun e0 H0 hq=>?_
   rw [← puts_app] at hq
   obtain⟨rfl,rfl⟩:=hq
   refine⟨rfl,_,⟨9,((8,bO (puts st (([]++[nm])++[tLB,pl]++[tRB])).s)::(0,wO 8 (puts st (([]++[nm])++[tLB,pl]++[tRB])))::[(2,rO ⟨nm,1,pl,n⟩)])⟩,rfl,rfl,?_⟩
   exact⟨[],[(2,8)],[], .returned und,_,rfl,sk,sk,rfl,rfl⟩
 ·have e:refT ⟨nm,m,pl,n⟩=[]++[nm]:=by simp [refT,tailT,h1,h2,h3]
  rw [e] at hb ⊢
  refine holdsN_of_vc Tryz.func114 rfl rfl rfl ?_
  refine(put_h true (puts st ([])) ([nm]) (by simp) (by have hz:=puts_sz ([]) st;simp only [wt_app,wt] at hb hz ⊢;omega)).holds.useT [] [(2,3)] rfl (sk) (sk) fun e0 H0 hq=>?_
  rw [← puts_app] at hq
  obtain⟨rfl,rfl⟩:=hq
  refine⟨rfl,_,⟨5,((4,bO (puts st ([]++[nm])).s)::(0,wO 4 (puts st ([]++[nm])))::[(2,rO ⟨nm,m,pl,n⟩)])⟩,rfl,rfl,?_⟩
  refine And.intro (fun h=>absurd h h1) (fun _=>?_)
  refine And.intro (fun h=>absurd h h2) (fun _=>?_)
  refine And.intro (fun h=>absurd h h3) (fun _=>?_)
  exact⟨[],[(2,4)],[], .returned und,_,rfl,sk,sk,rfl,rfl⟩
theorem sep_take {α:Type} {f:α→Toks} {l:List α} {k:Nat} (d:α) (h:k<l.length):sepT f (l.take (k+1))=sepT f (l.take k)++((if k=0 then [] else [tComma])++f (l.getD k d)):=by
 rw [take_succ_getD d h]
 cases k with
 | zero=>simp [sepT]
 | succ k=>
  rw [if_neg (by omega)]
  cases l with
  | nil=>simp at h
  | cons a l=>simp [sepT]
theorem sep_wt {α:Type} {f:α→Toks} (l:List α) (k:Nat):wt (sepT f (l.take k))≤wt (sepT f l):=by
 cases l with
 | nil=>simp
 | cons a l=>
  cases k with
  | zero=>exact Nat.zero_le _
  | succ k=>
   have e:l.flatMap (fun b=>tComma::f b)=(l.take k).flatMap (fun b=>tComma::f b)++(l.drop k).flatMap fun b=>tComma::f b:=by rw [← List.flatMap_append,List.take_append_drop]
   rw [List.take_succ_cons,sepT,sepT,e,wt_app,wt_app,wt_app]
   omega
theorem refs_take {key:List UInt8} {l:List Rf} {k:Nat} (h:k<l.length):refsT key (l.take (k+1))=(refsT key (l.take k)++[if k=0 then key else tComma])++refT (l.getD k rf0):=by
 have hs:=sep_take (f:=refT) rf0 h
 have hn:l.take (k+1) ≠ []:=fun e=>by have:=congrArg List.length e;rw [List.length_take,List.length_nil] at this;omega
 rw [refsT,if_neg hn,hs]
 by_cases c:k=0
 ·subst c;simp [refsT,sepT]
 ·have hn:l.take k ≠ []:=fun e=>by have:=congrArg List.length e;rw [List.length_take,List.length_nil] at this;omega
  rw [refsT,if_neg hn,if_neg c,if_neg c];simp
theorem refs_wt {key:List UInt8} (l:List Rf) (k:Nat):wt (refsT key (l.take k))≤wt (refsT key l):=by
 unfold refsT
 split
 ·exact Nat.zero_le _
 ·rename_i h
  rw [if_neg (fun e=>h (by rw [e];simp))]
  have:=sep_wt (f:=refT) l k
  simp only [wt];omega
theorem refs_w (st:Wst) (key:List UInt8) (l:List Rf) (hv:∀ r∈l,refB r=true) (hl:l.length≤8) (hb0:st.sz+wt (refsT key l)≤100000000):HoldsG cx 71 [.ptr 0 0 0, .p (.str key), .p (rfl_ l)] (wH true st) (WQ (puts st (refsT key l))):=by
 have hm:(l.map Rf.cells).length=l.length:=List.length_map ..
 refine holdsN_of_vc Tryz.func71 rfl rfl rfl ?_
 refine⟨Toks × Nat,fun x=>[(0, .ptr 0 0 0),(1, .p (.str key)),(8, .p (rfl_ l)),(9, .p (i64 (l.map Rf.cells).length)),(10, .p (i64 x.2))],fun x=>wH' (puts st x.1),fun x=>x.2≤l.length∧x.1=refsT key (l.take x.2),fun x=>l.length - x.2,?_,?_⟩
 ·exact⟨([],0),⟨Nat.zero_le _,rfl⟩,ent_of [] [(2,1)] [] rfl (sk) (sk) rfl⟩
 rintro⟨P,k⟩ ⟨k1,k2⟩
 simp only [] at k1 k2
 (first | refine brLt (fun m1=>?_) (fun m1=>?_) | refine brLe (fun m1=>?_) (fun m1=>?_) | refine brEq (fun m1=>?_) (fun m1=>?_))
 rotate_left
 ·have m1:¬ (k:Int)<((l.map Rf.cells).length:Nat):=m1
  rw [hm] at m1
  have e:l.take k=l:=take_all (by omega)
  rw [e] at k2
  exact⟨[],[(2,2)],[], .returned und,wH' (puts st P),rfl,sk,sk,rfl,by rw [k2]⟩
 have m1:(k:Int)<((l.map Rf.cells).length:Nat):=m1
 rw [hm] at m1
 have hk:k<l.length:=by omega
 have hr:=hv _ (getD_memL rf0 hk)
 have et:=refs_take (key:=key) hk
 have hw:=refs_wt (key:=key) l (k+1)
 have hcell:=rcell hk
 generalize l.getD k rf0=r at hr et hcell
 rw [et,← k2] at hw
 rw [← k2] at et
 clear k2
 have hb:st.sz+wt ((P++[if k=0 then key else tComma])++refT r)≤100000000:=by omega
 refine⟨_,⟨by omega,r.cells,hcell,rfl⟩,?_⟩
 by_cases c:k=0
 ·rw [if_pos c] at hb et
  refine And.intro (fun _=>?_) (fun h=>absurd (show(k:Int)=0 by omega) h)
  refine(put_h true (puts st (P)) ([key]) (by simp) (by have hz:=puts_sz (P) st;simp only [wt_app,wt] at hb hz ⊢;omega)).holds.useT [] [(1,2),(2,4)] rfl (sk) (sk) fun e0 H0 hq=>?_
  rw [← puts_app] at hq
  obtain⟨rfl,rfl⟩:=hq
  refine⟨rfl,_,⟨6,((5,bO (puts st (P++[key])).s)::(0,wO 5 (puts st (P++[key])))::[(3,rO r)])⟩,rfl,rfl,?_⟩
  refine(ref_w (puts st (P++[key])) r hr (by have hz:=puts_sz (P++[key]) st;simp only [wt_app,wt] at hb hz ⊢;omega)).holds.useT [] [(1,5)] rfl (sk) (sk) fun e0 H0 hq=>?_
  unfold WQ at hq
  rw [← puts_app] at hq
  obtain⟨rfl,rfl⟩:=hq
  refine⟨rfl,_,⟨7,((6,bO (puts st ((P++[key])++refT r)).s)::(0,wO 6 (puts st ((P++[key])++refT r)))::[(3,rO r)])⟩,rfl,rfl,?_⟩
  refine⟨_,wrap_i64 (by omega) (by omega),?_⟩
  exact⟨((P++[key])++refT r,k+1),⟨hk,et.symm⟩,ent_of [] [(2,6)] [] rfl (sk) (sk) rfl,by show l.length - (k+1)<l.length - k;omega⟩
 ·rw [if_neg c] at hb et
  refine And.intro (fun h=>absurd (show(k:Int)=0 from h) (by omega)) (fun _=>?_)
  refine(put_h true (puts st (P)) ([tComma]) (by simp) (by have hz:=puts_sz (P) st;simp only [wt_app,wt] at hb hz ⊢;omega)).holds.useT [] [(1,2),(2,4)] rfl (sk) (sk) fun e0 H0 hq=>?_
  rw [← puts_app] at hq
  obtain⟨rfl,rfl⟩:=hq
  refine⟨rfl,_,⟨6,((5,bO (puts st (P++[tComma])).s)::(0,wO 5 (puts st (P++[tComma])))::[(3,rO r)])⟩,rfl,rfl,?_⟩
  refine(ref_w (puts st (P++[tComma])) r hr (by have hz:=puts_sz (P++[tComma]) st;simp only [wt_app,wt] at hb hz ⊢;omega)).holds.useT [] [(1,5)] rfl (sk) (sk) fun e0 H0 hq=>?_
  unfold WQ at hq
  rw [← puts_app] at hq
  obtain⟨rfl,rfl⟩:=hq
  refine⟨rfl,_,⟨7,((6,bO (puts st ((P++[tComma])++refT r)).s)::(0,wO 6 (puts st ((P++[tComma])++refT r)))::[(3,rO r)])⟩,rfl,rfl,?_⟩
  refine⟨_,wrap_i64 (by omega) (by omega),?_⟩
  exact⟨((P++[tComma])++refT r,k+1),⟨hk,et.symm⟩,ent_of [] [(2,6)] [] rfl (sk) (sk) rfl,by show l.length - (k+1)<l.length - k;omega⟩
end Go.Proofs.YtohfoaplnjcihaaGreatDoor
namespace Go.Proofs.YtohfoaplnjcihaaGreatDoor
open Go Y
set_option maxRecDepth 100000
set_option maxHeartbeats 4000000
theorem ten_val:∀ n,n<10→(tenL.getD n 0).toNat=48+n:=by decide
structure DigOK (t:List UInt8) (n:Nat) (f:Nat):Prop where
 ne:t ≠ []
 len:t.length≤f
 dig:∀ c∈t,48≤c.toNat∧c.toNat≤57
 zero:n=0→t=[48]
 head:0<n→(t.headD 0).toNat ≠ 48
 val:valD t=n
theorem dig_ok:∀ (f n:Nat),n<10 ^ (f+1)→DigOK (digN (f+1) n) n (f+1)
 | f,n,h=>by
  rw [digN]
  by_cases c:n<10
  ·rw [if_pos c]
   have hv:=ten_val n c
   refine⟨by simp,by simp,fun x hx=>?_,fun e=>by subst e;rfl,fun e=>?_,?_⟩
   ·rw [List.mem_singleton.1 hx];omega
   ·show(tenL.getD n 0).toNat ≠ 48;omega
   ·show 10 * (0:Int)+(((tenL.getD n 0).toNat:Int) - 48)=n;omega
  ·rw [if_neg c]
   obtain⟨g,rfl⟩:∃ g,f=g+1:=by
    cases f with
    | zero=>exfalso;omega
    | succ g=>exact⟨g,rfl⟩
   have ih:=dig_ok g (n / 10) (by rw [Nat.pow_succ] at h;omega)
   have hv:=ten_val (n % 10) (by omega)
   refine⟨by simp,by have:=ih.len;simp only [List.length_append,List.length_singleton];omega,fun x hx=>?_,fun e=>by omega,fun _=>?_,?_⟩
   ·rcases List.mem_append.1 hx with hx | hx
    ·exact ih.dig x hx
    ·rw [List.mem_singleton.1 hx];omega
   ·have hh:=ih.head (by omega)
    have hne:=ih.ne
    cases hd:digN (g+1) (n / 10) with
    | nil=>exact absurd hd hne
    | cons x r=>rw [hd] at hh;exact hh
   ·rw [valD_snoc,ih.val];omega
theorem digT_num {n:Int} (h:natB n=true):numN (digT n)=true∧valD (digT n)=n:=by
 simp only [natB,Bool.and_eq_true,decide_eq_true_eq] at h
 have hd:=dig_ok 3 n.toNat (by show n.toNat<10000;omega)
 refine⟨?_,by rw [digT,hd.val];omega⟩
 unfold numN digT
 simp only [Bool.and_eq_true,decide_eq_true_eq,Bool.or_eq_true]
 refine⟨⟨⟨hd.ne,hd.len⟩,spanN_all.2 fun c hc=>?_⟩,?_⟩
 ·have:=hd.dig c hc
  simp only [isDig,Bool.and_eq_true,decide_eq_true_eq];exact this
 ·by_cases c:n.toNat=0
  ·exact .inl (hd.zero c)
  ·exact .inr (hd.head (by omega))
def AtW (ws:List Wd):Nat→Toks→Prop
 | _,[]=>True
 | q,t::r=>txt ws q=t∧AtW ws (q+1) r
section
variable {ws:List Wd} (hg:GoodW ws)
include hg
end
end Go.Proofs.YtohfoaplnjcihaaGreatDoor
namespace Go.Proofs.YtohfoaplnjcihaaGreatDoor
open Go Y
set_option maxRecDepth 100000
set_option maxHeartbeats 4000000
theorem incB_at {l:List Int}:∀ (f k:Nat),incB l f k=true→∀ i,k≤i→i<k+f→natB (l.getD i 0)=true∧(i=0∨l.getD (i - 1) 0<l.getD i 0)
 | 0,k,_,i,h1,h2=>absurd h2 (by omega)
 | f+1,k,h,i,h1,h2=>by
  rw [incB] at h
  simp only [Bool.and_eq_true,Bool.or_eq_true,decide_eq_true_eq] at h
  by_cases c:i=k
  ·subst c
   exact h.1
  ·exact incB_at f (k+1) h.2 i (by omega) (by omega)
theorem setB_facts {l:List Int} (h:setB l=true):l ≠ []∧(∀ n∈l,natB n=true)∧setN l=l:=by
 simp only [setB,Bool.and_eq_true,decide_eq_true_eq] at h
 obtain⟨⟨h1,h2⟩,h3⟩:=h
 have hi:=incB_at l.length 0 h3
 refine⟨fun e=>by rw [e] at h1;simp at h1,fun n hn=>?_,?_⟩
 ·obtain⟨i,hi1,rfl⟩:=List.getElem_of_mem hn
  have:=(hi i (by omega) (by omega)).1
  rw [List.getD_eq_getElem?_getD,List.getElem?_eq_getElem hi1] at this
  exact this
 ·have hinc:Inc l:=by
   rw [Inc,List.pairwise_iff_getElem]
   have key:∀ (d i:Nat),i+d+1<l.length→l.getD i 0<l.getD (i+d+1) 0:=by
    intro d
    induction d with
    | zero=>
     intro i hd
     have:=(hi (i+0+1) (by omega) (by omega)).2
     rcases this with h | h
     ·omega
     ·exact h
    | succ d ih=>
     intro i hd
     have a:=ih i (by omega)
     have:=(hi (i+(d+1)+1) (by omega) (by omega)).2
     rcases this with h | h
     ·omega
     ·rw [show i+(d+1)+1 - 1=i+d+1 by omega] at h
      omega
   intro i j hi1 hj hij
   have:=key (j - i - 1) i (by omega)
   rw [show i+(j - i - 1)+1=j by omega,List.getD_eq_getElem?_getD,List.getElem?_eq_getElem hi1,List.getD_eq_getElem?_getD,List.getElem?_eq_getElem hj] at this
   exact this
  have hs:=set_fold l [] List.Pairwise.nil
  refine inc_ext hs.1 hinc fun y=>?_
  rw [setN] at *
  rw [hs.2]
  simp
def HeadOK (t:List UInt8):Prop:=nameN t=true∨t=tNot∨t=tLP∨t=tCount
structure CB (ws:List Wd) (c:Cd):Prop where
 neg:∀ F q,4 * (ws.length - q)+2≤F→AtW ws q (withinT 3 c)→negR ws F q=.inr (c,q+(withinT 3 c).length)
 conj:∀ F q,4 * (ws.length - q)+3≤F→AtW ws q (withinT 2 c)→∃ f,4 * (ws.length - (q+(withinT 2 c).length))+1≤f∧conjR ws F q=andR ws f c (q+(withinT 2 c).length)
 cond:∀ F q,4 * (ws.length - q)+4≤F→AtW ws q (withinT 1 c)→¬ txt ws (q+(withinT 1 c).length)=tAnd→∃ f,4 * (ws.length - (q+(withinT 1 c).length))+1≤f∧condR ws F q=orR ws f c (q+(withinT 1 c).length)
 head:∃ t r,condT c=t::r∧HeadOK t
section
variable {ws:List Wd} (hg:GoodW ws)
end
end Go.Proofs.YtohfoaplnjcihaaGreatDoor
namespace Go.Proofs.YtohfoaplnjcihaaGreatDoor
open Go Y
set_option maxRecDepth 100000
set_option maxHeartbeats 4000000
theorem foldM_mem {f:Nat→Cd→Option Nat}:∀ {ar:List Cd} {l k:Nat},ar.foldlM f l=some k→∀ c∈ar,∃ a b,f a c=some b
 | [],_,_,_,c,hc=>by simp at hc
 | x::ar,l,k,h,c,hc=>by
  rw [List.foldlM_cons] at h
  cases hx:f l x with
  | none=>rw [hx] at h;cases h
  | some m=>
   rw [hx] at h
   rcases List.mem_cons.1 hc with rfl | hc
   ·exact⟨l,m,hx⟩
   ·exact foldM_mem (ar:=ar) h c hc
theorem plain_zero {n rel val:Int} {r:Rf} {st:List Int} (h:plainB n rel val r st=true):n=0∧rel=0∧val=0∧r=rf0∧st=[]:=by
 simp only [plainB,Bool.and_eq_true,decide_eq_true_eq] at h
 exact⟨h.1.1.1.1,h.1.1.1.2,h.1.1.2,h.1.2,h.2⟩
theorem len2 {α:Type} {l:List α} (h:l.length=2):∃ a b,l=[a,b]:=by
 rcases l with _ | ⟨a,_ | ⟨b,_ | ⟨c,l⟩⟩⟩
 ·cases h
 ·cases h
 ·exact⟨a,b,rfl⟩
 ·simp only [List.length_cons] at h;omega
theorem len1 {α:Type} {l:List α} (h:l.length=1):∃ a,l=[a]:=by
 rcases l with _ | ⟨a,_ | ⟨b,l⟩⟩
 ·cases h
 ·exact⟨a,rfl⟩
 ·simp only [List.length_cons] at h;omega
inductive Sh (P:Cd→Prop):Cd→Prop
 | leaf (op n rel val:Int) (r:Rf) (st:List Int) (h7:¬ op=7) (h8:¬ op=8) (h9:¬ op=9) (h:leafB op n rel val r st=true):Sh P (.mk op n rel val r st [])
 | neg (a:Cd) (h:P a):Sh P (.mk 7 0 0 0 rf0 [] [a])
 | conj (a b:Cd) (ha:P a) (hb:P b):Sh P (.mk 8 0 0 0 rf0 [] [a,b])
 | disj (a b:Cd) (ha:P a) (hb:P b):Sh P (.mk 9 0 0 0 rf0 [] [a,b])
theorem cond_shape {d:Nat} {c:Cd} {left k:Nat} (h:condV (d+1) c left=some k):Sh (fun a=>∃ l k,condV d a l=some k) c:=by
 obtain⟨op,n,rel,val,r,st,ar⟩:=c
 rw [condV] at h
 split at h
 ·cases h
 ·split at h
  ·rename_i hh
   have hm:=foldM_mem h
   unfold headB at hh
   split at hh
   ·rename_i h0
    simp only [Bool.and_eq_true,decide_eq_true_eq] at hh
    have:ar=[]:=List.length_eq_zero_iff.1 hh.2
    subst this
    unfold argsN at h0
    refine .leaf op n rel val r st ?_ ?_ ?_ hh.1
    ·rintro rfl;cases h0
    ·rintro rfl;cases h0
    ·rintro rfl;cases h0
   ·rename_i h0
    simp only [Bool.and_eq_true,decide_eq_true_eq] at hh
    obtain⟨hk,hp⟩:=hh
    obtain⟨rfl,rfl,rfl,rfl,rfl⟩:=plain_zero hp
    unfold argsN at h0 hk
    by_cases c7:op=7
    ·subst c7
     obtain⟨a,rfl⟩:=len1 hk
     exact .neg a (hm a (by simp))
    ·rw [if_neg c7] at h0 hk
     by_cases c8:op=8
     ·subst c8
      obtain⟨a,b,rfl⟩:=len2 hk
      exact .conj a b (hm a (by simp)) (hm b (by simp))
     ·by_cases c9:op=9
      ·subst c9
       obtain⟨a,b,rfl⟩:=len2 hk
       exact .disj a b (hm a (by simp)) (hm b (by simp))
      ·rw [if_neg (by omega)] at h0
       exact absurd rfl h0
  ·cases h
theorem Sh.mono {P Q:Cd→Prop} {c:Cd} (h:Sh P c) (hpq:∀ a,P a→Q a):Sh Q c:=by
 cases h with
 | leaf op n rel val r st h7 h8 h9 h=>exact .leaf op n rel val r st h7 h8 h9 h
 | neg a h=>exact .neg a (hpq a h)
 | conj a b ha hb=>exact .conj a b (hpq a ha) (hpq b hb)
 | disj a b ha hb=>exact .disj a b (hpq a ha) (hpq b hb)
theorem condT_leaf {op n rel val:Int} {r:Rf} {st:List Int} (h7:¬ op=7) (h8:¬ op=8) (h9:¬ op=9):condT (.mk op n rel val r st [])=leafT op n rel val r st:=by
 rw [condT,joinT,if_neg h9,if_neg h8,if_neg h7]
theorem condT_neg (a:Cd):condT (.mk 7 0 0 0 rf0 [] [a])=tNot::withinT 3 a:=by
 rw [condT,condTs,condTs];rfl
theorem condT_conj (a b:Cd):condT (.mk 8 0 0 0 rf0 [] [a,b])=withinT 2 a++tAnd::withinT 3 b:=by
 rw [condT,condTs,condTs,condTs];rfl
theorem condT_disj (a b:Cd):condT (.mk 9 0 0 0 rf0 [] [a,b])=withinT 1 a++tOr::withinT 2 b:=by
 rw [condT,condTs,condTs,condTs];rfl
theorem lvl_leaf {op:Int} (h7:¬ op=7) (h8:¬ op=8) (h9:¬ op=9):lvl op=4:=by rw [lvl,if_neg h9,if_neg h8,if_neg h7]
theorem within_at {k:Nat} {c:Cd} (h:¬ lvl c.op<k):withinT k c=condT c:=if_neg h
section
variable {ws:List Wd} (hg:GoodW ws)
include hg
end
end Go.Proofs.YtohfoaplnjcihaaGreatDoor
namespace Go.Proofs.YtohfoaplnjcihaaGreatDoor
open Go Y
set_option maxRecDepth 100000
set_option maxHeartbeats 4000000
theorem nums_facts {l:List Int} (h:numsB l=true):l ≠ []∧l.length≤8∧∀ n∈l,wgtB n=true:=by
 simp only [numsB,Bool.and_eq_true,decide_eq_true_eq,List.all_eq_true] at h
 exact⟨fun e=>by rw [e] at h;exact absurd h.1.1 (by decide),h.1.2,h.2⟩
section
variable {ws:List Wd} (hg:GoodW ws)
include hg
end
end Go.Proofs.YtohfoaplnjcihaaGreatDoor
namespace Go.Proofs.YtohfoaplnjcihaaGreatDoor
open Go Y
set_option maxRecDepth 100000
set_option maxHeartbeats 4000000
structure GapOK (g:List UInt8):Prop where
 sep:∃ c r,g=c::r∧isSep c
 skip:∀ r,stopB r=true→Skips g r
def TokOK (t:List UInt8):Prop:=∃ k,rightN k t=true
def AllT (x:Toks):Prop:=∀ t∈x,TokOK t
theorem allT_nil:AllT []:=fun t h=>by simp at h
theorem allT_cons {t:List UInt8} {x:Toks} (h:TokOK t) (hx:AllT x):AllT (t::x):=fun u hu=>by
 rcases List.mem_cons.1 hu with rfl | hu
 ·exact h
 ·exact hx u hu
theorem allT_app {x y:Toks} (hx:AllT x) (hy:AllT y):AllT (x++y):=fun u hu=>by
 rcases List.mem_append.1 hu with hu | hu
 ·exact hx u hu
 ·exact hy u hu
theorem tok_name {t:List UInt8} (h:nameN t=true):TokOK t:=⟨1,h⟩
theorem tok_dig {n:Int} (h:natB n=true):TokOK (digT n):=⟨3,(digT_num h).1⟩
theorem tok_fix:∀ t∈keysL++marksL,TokOK t:=by
 intro t ht
 rcases List.mem_append.1 ht with h | h
 ·exact⟨2,(by decide:∀ t∈keysL,rightN 2 t=true) t h⟩
 ·exact⟨4,(by decide:∀ t∈marksL,rightN 4 t=true) t h⟩
theorem fixT {x:Toks} (h:∀ t∈x,t∈keysL++marksL):AllT x:=fun t ht=>tok_fix t (h t ht)
theorem ref_toks {r:Rf} (h:refB r=true):AllT (refT r)∧(refT r).length≤6:=by
 obtain⟨nm,m,pl,n⟩:=r
 rw [refB,Bool.and_eq_true] at h
 obtain⟨hn,h⟩:=h
 simp only [] at h hn
 have k1:TokOK tLB:=tok_fix _ (by decide)
 have k2:TokOK tRB:=tok_fix _ (by decide)
 have k3:TokOK tAll:=tok_fix _ (by decide)
 have k4:TokOK tPlus:=tok_fix _ (by decide)
 suffices hs:AllT (tailT ⟨nm,m,pl,n⟩)∧(tailT ⟨nm,m,pl,n⟩).length≤5 by
  exact⟨allT_cons (tok_name hn) hs.1,by show _+1≤6;omega⟩
 unfold tailT
 simp only []
 split
 ·exact⟨allT_cons k1 (allT_cons k3 (allT_cons k2 allT_nil)),by simp⟩
 ·rename_i h3
  split
  ·rename_i h2
   rw [if_neg (by omega),if_neg (by omega),if_pos h2,Bool.and_eq_true] at h
   exact⟨allT_cons k1 (allT_cons (tok_dig h.2) (allT_cons k2 allT_nil)),by simp⟩
  ·split
   ·rename_i h1
    rw [if_neg (by omega),if_pos h1,Bool.and_eq_true] at h
    split
    ·exact⟨allT_cons k1 (allT_cons (tok_name h.1) (allT_cons k4 (allT_cons (tok_dig h.2) (allT_cons k2 allT_nil)))),by simp⟩
    ·exact⟨allT_cons k1 (allT_cons (tok_name h.1) (allT_cons k2 allT_nil)),by simp⟩
   ·exact⟨allT_nil,by simp⟩
theorem flat_toks {α:Type} {f:α→Toks} {b:Nat}:∀ {l:List α},(∀ a∈l,AllT (f a)∧(f a).length≤b)→AllT (l.flatMap f)∧(l.flatMap f).length≤b * l.length
 | [],_=>⟨allT_nil,by simp⟩
 | a::l,h=>by
  have h1:=h a (List.mem_cons_self ..)
  have h2:=flat_toks (f:=f) (b:=b) (l:=l) fun x hx=>h x (List.mem_cons_of_mem _ hx)
  rw [List.flatMap_cons]
  refine⟨allT_app h1.1 h2.1,?_⟩
  rw [List.length_append,List.length_cons,Nat.mul_succ]
  omega
theorem sep_toks {α:Type} {f:α→Toks} {b:Nat} {l:List α} (h:∀ a∈l,AllT (f a)∧(f a).length≤b):AllT (sepT f l)∧(sepT f l).length≤(b+1) * l.length:=by
 cases l with
 | nil=>exact⟨allT_nil,by simp [sepT]⟩
 | cons a l=>
  have h1:=h a (List.mem_cons_self ..)
  have h2:=flat_toks (f:=fun x=>tComma::f x) (b:=b+1) (l:=l) fun x hx=>⟨allT_cons (tok_fix _ (by decide)) (h x (List.mem_cons_of_mem _ hx)).1,by have:=(h x (List.mem_cons_of_mem _ hx)).2;simp only [List.length_cons];omega⟩
  rw [sepT]
  refine⟨allT_app h1.1 h2.1,?_⟩
  rw [List.length_append,List.length_cons,Nat.mul_succ]
  omega
theorem rel_tok (k:Int):TokOK (relT k):=by
 refine tok_fix _ ?_
 unfold relT
 split
 ·decide
 ·split
  ·decide
  ·split <;> decide
theorem leaf_toks {op n rel val:Int} {r:Rf} {st:List Int} (hb:leafB op n rel val r st=true):AllT (leafT op n rel val r st)∧(leafT op n rel val r st).length≤25:=by
 unfold leafB at hb
 unfold leafT
 by_cases c6:op=6
 ·rw [if_neg (by omega),if_neg (by omega),if_pos c6] at hb
  simp only [Bool.and_eq_true,decide_eq_true_eq] at hb
  obtain⟨⟨⟨⟨⟨⟨b1,b2⟩,b3⟩,b4⟩,b5⟩,b6⟩,b7⟩:=hb
  rw [if_pos c6]
  have hr:=ref_toks b1
  refine⟨allT_app (fixT (by decide)) (allT_app hr.1 (allT_cons (tok_fix _ (by decide)) (allT_cons (tok_dig b4) (allT_cons (tok_fix _ (by decide)) (allT_cons (rel_tok rel) (allT_cons (tok_dig b3) allT_nil)))))),?_⟩
  simp only [List.length_append,List.length_cons,List.length_nil];omega
 ·rw [if_neg c6]
  by_cases c5:op=5
  ·rw [if_neg (by omega),if_pos c5] at hb
   simp only [Bool.and_eq_true,decide_eq_true_eq] at hb
   obtain⟨⟨⟨⟨b1,b2⟩,b3⟩,b4⟩,b5⟩:=hb
   rw [if_pos c5]
   have hr:=ref_toks b1
   have hset:=setB_facts b5
   have hl8:st.length≤8:=by
    simp only [setB,Bool.and_eq_true,decide_eq_true_eq] at b5
    exact b5.1.2
   have hs:=sep_toks (f:=fun n=>[digT n]) (b:=1) (l:=st) fun a ha=>⟨allT_cons (tok_dig (hset.2.1 a ha)) allT_nil,by simp⟩
   refine⟨allT_app hr.1 (allT_app (fixT (by decide)) (allT_app hs.1 (fixT (by decide)))),?_⟩
   simp only [List.length_append,List.length_cons,List.length_nil];omega
  ·rw [if_neg c5]
   by_cases c1:op=1∨op=2∨op=3∨op=4
   ·rw [if_pos c1] at hb
    simp only [Bool.and_eq_true,decide_eq_true_eq] at hb
    have hr:=ref_toks hb.1.1.1.1
    refine⟨allT_app hr.1 (allT_cons (rel_tok op) (allT_cons (tok_dig hb.1.1.1.2) allT_nil)),?_⟩
    simp only [List.length_append,List.length_cons,List.length_nil];omega
   ·rw [if_neg c1,if_neg c5,if_neg c6] at hb
    cases hb
inductive ShN (P:Nat→Cd→Nat→Prop):Nat→Cd→Nat→Prop
 | leaf (op n rel val:Int) (r:Rf) (st:List Int) (l:Nat) (h7:¬ op=7) (h8:¬ op=8) (h9:¬ op=9) (h:leafB op n rel val r st=true):ShN P (l+1) (.mk op n rel val r st []) l
 | neg (a:Cd) (l k:Nat) (h:P l a k):ShN P (l+1) (.mk 7 0 0 0 rf0 [] [a]) k
 | conj (a b:Cd) (l m k:Nat) (ha:P l a m) (hb:P m b k):ShN P (l+1) (.mk 8 0 0 0 rf0 [] [a,b]) k
 | disj (a b:Cd) (l m k:Nat) (ha:P l a m) (hb:P m b k):ShN P (l+1) (.mk 9 0 0 0 rf0 [] [a,b]) k
theorem cond_shapeN {d:Nat} {c:Cd} {left k:Nat} (h:condV (d+1) c left=some k):ShN (fun l a k=>condV d a l=some k) left c k:=by
 obtain⟨op,n,rel,val,r,st,ar⟩:=c
 rw [condV] at h
 split at h
 ·cases h
 ·rename_i hl0
  obtain⟨l,rfl⟩:∃ l,left=l+1:=⟨left - 1,by omega⟩
  rw [Nat.add_sub_cancel] at h
  split at h
  ·rename_i hh
   unfold headB at hh
   split at hh
   ·rename_i h0
    simp only [Bool.and_eq_true,decide_eq_true_eq] at hh
    have:ar=[]:=List.length_eq_zero_iff.1 hh.2
    subst this
    unfold argsN at h0
    injection h with h
    have h:l=k:=h
    subst h
    refine .leaf op n rel val r st l ?_ ?_ ?_ hh.1
    ·rintro rfl;cases h0
    ·rintro rfl;cases h0
    ·rintro rfl;cases h0
   ·rename_i h0
    simp only [Bool.and_eq_true,decide_eq_true_eq] at hh
    obtain⟨hk,hp⟩:=hh
    obtain⟨rfl,rfl,rfl,rfl,rfl⟩:=plain_zero hp
    have two:∀ {a b:Cd},[a,b].foldlM (fun l c=>condV d c l) l=some k→∃ m,condV d a l=some m∧condV d b m=some k:=fun {a b} h=>by
     rw [List.foldlM_cons] at h
     cases h1:condV d a l with
     | none=>rw [h1] at h;cases h
     | some m=>
      rw [h1] at h
      have h:[b].foldlM (fun l c=>condV d c l) m=some k:=h
      rw [List.foldlM_cons] at h
      cases h2:condV d b m with
      | none=>rw [h2] at h;cases h
      | some m2=>
       rw [h2] at h
       exact⟨m,rfl,by rw [h2];exact h⟩
    unfold argsN at h0 hk
    by_cases c7:op=7
    ·subst c7
     obtain⟨a,rfl⟩:=len1 hk
     rw [List.foldlM_cons] at h
     cases h1:condV d a l with
     | none=>rw [h1] at h;cases h
     | some m=>
      rw [h1] at h
      exact .neg a l k (by rw [h1];exact h)
    ·rw [if_neg c7] at h0 hk
     by_cases c8:op=8
     ·subst c8
      obtain⟨a,b,rfl⟩:=len2 hk
      obtain⟨m,h1,h2⟩:=two h
      exact .conj a b l m k h1 h2
     ·by_cases c9:op=9
      ·subst c9
       obtain⟨a,b,rfl⟩:=len2 hk
       obtain⟨m,h1,h2⟩:=two h
       exact .disj a b l m k h1 h2
      ·rw [if_neg (by omega)] at h0
       exact absurd rfl h0
  ·cases h
theorem within_toks {k:Nat} {c:Cd} (h:AllT (condT c)):AllT (withinT k c)∧(withinT k c).length≤(condT c).length+2:=by
 by_cases hl:lvl c.op<k
 ·rw [withinT,inT,if_pos hl]
  exact⟨allT_cons (tok_fix _ (by decide)) (allT_app h (fixT (by decide))),by simp⟩
 ·rw [within_at hl]
  exact⟨h,by omega⟩
theorem cond_toks:∀ (d:Nat) (c:Cd) (left k:Nat),condV d c left=some k→AllT (condT c)∧(condT c).length+2+28 * k≤28 * left
 | 0,_,_,_,h=>by cases h
 | d+1,c,left,k,h=>by
  cases cond_shapeN h with
  | leaf op n rel val r st l h7 h8 h9 hb=>
   rw [condT_leaf h7 h8 h9]
   have:=leaf_toks hb
   exact⟨this.1,by omega⟩
  | neg a l k ha=>
   have ia:=cond_toks d a l k ha
   have wa:=within_toks (k:=3) ia.1
   rw [condT_neg]
   exact⟨allT_cons (tok_fix _ (by decide)) wa.1,by simp only [List.length_cons];omega⟩
  | conj a b l m k ha hb=>
   have ia:=cond_toks d a l m ha
   have ib:=cond_toks d b m k hb
   have wa:=within_toks (k:=2) ia.1
   have wb:=within_toks (k:=3) ib.1
   rw [condT_conj]
   exact⟨allT_app wa.1 (allT_cons (tok_fix _ (by decide)) wb.1),by simp only [List.length_append,List.length_cons];omega⟩
  | disj a b l m k ha hb=>
   have ia:=cond_toks d a l m ha
   have ib:=cond_toks d b m k hb
   have wa:=within_toks (k:=1) ia.1
   have wb:=within_toks (k:=2) ib.1
   rw [condT_disj]
   exact⟨allT_app wa.1 (allT_cons (tok_fix _ (by decide)) wb.1),by simp only [List.length_append,List.length_cons];omega⟩
theorem int_toks {n:Int} (h:wgtB n=true):AllT (intT n)∧(intT n).length≤2:=by
 simp only [wgtB,Bool.and_eq_true,decide_eq_true_eq] at h
 unfold intT
 split
 ·exact⟨allT_cons (tok_fix _ (by decide)) (allT_cons (tok_dig (by simp only [natB,Bool.and_eq_true,decide_eq_true_eq];omega)) allT_nil),by simp⟩
 ·exact⟨allT_cons (tok_dig (by simp only [natB,Bool.and_eq_true,decide_eq_true_eq];omega)) allT_nil,by simp⟩
theorem nums_toks {l:List Int} (h:numsB l=true):AllT (numsT l)∧(numsT l).length≤16:=by
 obtain⟨h1,h2,h3⟩:=nums_facts h
 have:=flat_toks (f:=intT) (b:=2) (l:=l) fun a ha=>int_toks (h3 a ha)
 exact⟨this.1,by have h4:=this.2;unfold numsT;omega⟩
theorem cases_toks:∀ {l:List Cs},casesT l=true→AllT (casesTx l)∧(casesTx l).length≤858 * l.length
 | [],_=>⟨allT_nil,by simp [casesTx]⟩
 | [c],h=>by
  simp only [casesT,Bool.and_eq_true] at h
  have hn:=nums_toks h.1
  rw [casesTx]
  exact⟨allT_cons (tok_fix _ (by decide)) (allT_cons (tok_fix _ (by decide)) hn.1),by simp only [List.length_cons,List.length_nil];omega⟩
 | c::d::r,h=>by
  simp only [casesT,Bool.and_eq_true] at h
  obtain⟨⟨hn,hc⟩,hr⟩:=h
  have hn:=nums_toks hn
  obtain⟨k,hk⟩:=Option.isSome_iff_exists.1 hc
  have hc:=cond_toks 8 c.cond 30 k hk
  have ih:=cases_toks (l:=d::r) hr
  rw [casesTx]
  refine⟨allT_app hc.1 (allT_cons (tok_fix _ (by decide)) (allT_app hn.1 (allT_cons (tok_fix _ (by decide)) ih.1))),?_⟩
  have:=ih.2
  simp only [List.length_append,List.length_cons] at this ⊢
  omega
theorem rule_toks {l:List Cs} (h:casesB l=true):AllT (ruleT l)∧(ruleT l).length≤10300:=by
 simp only [casesB,Bool.and_eq_true,decide_eq_true_eq] at h
 obtain⟨⟨h1,h2⟩,h3⟩:=h
 have:=cases_toks h3
 refine⟨allT_cons (tok_fix _ (by decide)) (allT_app this.1 (fixT (by decide))),?_⟩
 rw [ruleT]
 simp only [List.length_append,List.length_cons,List.length_nil]
 have h4:=this.2
 omega
theorem refs_toks {key:List UInt8} {l:List Rf} (hk:key∈keysL++marksL) (h:∀ r∈l,refB r=true) (hl:l.length≤8):AllT (refsT key l)∧(refsT key l).length≤60:=by
 unfold refsT
 split
 ·exact⟨allT_nil,by simp⟩
 ·have:=sep_toks (f:=refT) (b:=6) (l:=l) fun a ha=>ref_toks (h a ha)
  exact⟨allT_cons (tok_fix _ hk) this.1,by have h2:=this.2;simp only [List.length_cons];omega⟩
theorem decl_toks {d:De} (hv:declB d=true):AllT (declT d)∧(declT d).length≤10400:=by
 obtain⟨k,n,nm,pl,rs,cs⟩:=d
 simp only [declB,Bool.and_eq_true,decide_eq_true_eq,List.all_eq_true] at hv
 obtain⟨⟨⟨v1,v2⟩,v3⟩,v4⟩:=hv
 suffices hs:AllT (headT ⟨k,n,nm,pl,rs,cs⟩)∧(headT ⟨k,n,nm,pl,rs,cs⟩).length≤10399 by
  exact⟨allT_app hs.1 (fixT (by decide)),by rw [declT,List.length_append];simp only [List.length_cons,List.length_nil];omega⟩
 unfold kindB at v4
 unfold headT
 simp only [] at v4 ⊢
 have hd:=tok_dig v1
 by_cases c1:k=1
 ·rw [if_pos c1]
  exact⟨allT_cons (tok_fix _ (by decide)) (allT_cons hd allT_nil),by simp⟩
 rw [if_neg c1] at v4 ⊢
 by_cases c2:k=2
 ·rw [if_pos c2] at v4 ⊢
  simp only [Bool.and_eq_true,decide_eq_true_eq] at v4
  exact⟨allT_cons (tok_fix _ (by decide)) (allT_cons (tok_name v4.1.1.1) (allT_cons (tok_fix _ (by decide)) (allT_cons hd allT_nil))),by simp⟩
 rw [if_neg c2] at v4 ⊢
 by_cases c3:k=3
 ·rw [if_pos c3] at v4 ⊢
  simp only [Bool.and_eq_true,Bool.or_eq_true,decide_eq_true_eq] at v4
  obtain⟨⟨v0,v5⟩,v6⟩:=v4
  have hr:=refs_toks (key:=tFrom) (by decide) v3 v2
  have hc:=rule_toks v6
  have hp:AllT (if pl=[] then [] else [tLB,pl,tRB])∧(if pl=[] then [] else [tLB,pl,tRB]:Toks).length≤3:=by
   split
   ·exact⟨allT_nil,by simp⟩
   ·rename_i h
    exact⟨allT_cons (tok_fix _ (by decide)) (allT_cons (tok_name (v5.resolve_left h)) (fixT (by decide))),by simp⟩
  refine⟨allT_app (allT_cons (tok_fix _ (by decide)) (allT_cons (tok_name v0) allT_nil)) (allT_app hp.1 (allT_app (allT_cons (tok_fix _ (by decide)) (allT_cons hd allT_nil)) (allT_app hr.1 (allT_cons (tok_fix _ (by decide)) hc.1)))),?_⟩
  have h1:=hp.2
  have h2:=hr.2
  have h3:=hc.2
  simp only [List.length_append,List.length_cons,List.length_nil] at h1 ⊢
  omega
 rw [if_neg c3] at v4 ⊢
 by_cases c4:k=4
 ·rw [if_pos c4] at v4 ⊢
  simp only [Bool.and_eq_true,decide_eq_true_eq] at v4
  have hr:=refs_toks (key:=tSeeing) (by decide) v3 v2
  refine⟨allT_app (allT_cons (tok_fix _ (by decide)) (allT_cons (tok_name v4.1.1) (allT_cons (tok_fix _ (by decide)) (allT_cons hd allT_nil)))) hr.1,?_⟩
  have h2:=hr.2
  simp only [List.length_append,List.length_cons,List.length_nil];omega
 rw [if_neg c4] at v4 ⊢
 by_cases c5:k=5
 ·rw [if_pos c5] at v4 ⊢
  simp only [Bool.and_eq_true,decide_eq_true_eq] at v4
  have hr:=refs_toks (key:=tFrom) (by decide) v3 v2
  have hc:=rule_toks v4.2
  refine⟨allT_cons (tok_fix _ (by decide)) (allT_app hr.1 (allT_cons (tok_fix _ (by decide)) hc.1)),?_⟩
  have h2:=hr.2
  have h3:=hc.2
  simp only [List.length_append,List.length_cons];omega
 ·rw [if_neg c5]
  exact⟨allT_nil,by simp⟩
theorem tok_len {t:List UInt8} (h:TokOK t):1≤t.length∧t.length≤10:=by
 obtain⟨k,h⟩:=h
 exact right_len h
theorem spW_len:∀ {x:Toks} (b:Bool),AllT x→(spW b x).length≤11 * x.length
 | [],_,_=>by simp [spW]
 | t::x,b,h=>by
  have h1:=tok_len (h t (List.mem_cons_self ..))
  have h2:=spW_len (x:=x) true fun u hu=>h u (List.mem_cons_of_mem _ hu)
  have h3:(if b=true then [32] else []:List UInt8).length≤1:=by cases b <;> simp
  rw [spW,List.length_append,List.length_append,List.length_cons]
  omega
theorem valid_decl {ds:List De} (h:validB ds=true):ds.length≤30∧∀ d∈ds,declB d=true:=by
 simp only [validB,Bool.and_eq_true,decide_eq_true_eq,List.all_eq_true] at h
 exact h
theorem relw_c (k:Int):Pure cx 185 [i64 k] (·=.ret [.str (relT k)]):=by
 refine pure_of_vc Tryz.func185 rfl rfl rfl ?_
 (first | refine brLt (fun h1=>?_) (fun h1=>?_) | refine brLe (fun h1=>?_) (fun h1=>?_) | refine brEq (fun h1=>?_) (fun h1=>?_))
 ·have h1:k=1:=h1
  exact end1 _ rfl rfl (by rw [relT,if_pos h1])
 have h1:¬ k=1:=h1
 (first | refine brLt (fun h2=>?_) (fun h2=>?_) | refine brLe (fun h2=>?_) (fun h2=>?_) | refine brEq (fun h2=>?_) (fun h2=>?_))
 ·have h2:k=2:=h2
  exact end1 _ rfl rfl (by rw [relT,if_neg h1,if_pos h2])
 have h2:¬ k=2:=h2
 (first | refine brLt (fun h3=>?_) (fun h3=>?_) | refine brLe (fun h3=>?_) (fun h3=>?_) | refine brEq (fun h3=>?_) (fun h3=>?_))
 ·have h3:k=3:=h3
  exact end1 _ rfl rfl (by rw [relT,if_neg h1,if_neg h2,if_pos h3])
 have h3:¬ k=3:=h3
 exact end1 _ rfl rfl (by rw [relT,if_neg h1,if_neg h2,if_neg h3])
theorem leafB_all {op n rel val:Int} {r:Rf} {st:List Int} (hb:leafB op n rel val r st=true):refB r=true∧(op=6→natB n=true∧natB val=true)∧(op=5→setB st=true)∧(¬ op=5→¬ op=6→natB n=true):=by
 unfold leafB at hb
 by_cases c6:op=6
 ·rw [if_neg (by omega),if_neg (by omega),if_pos c6] at hb
  simp only [Bool.and_eq_true,decide_eq_true_eq] at hb
  obtain⟨⟨⟨⟨⟨⟨b1,b2⟩,b3⟩,b4⟩,b5⟩,b6⟩,b7⟩:=hb
  exact⟨b1,fun _=>⟨b3,b4⟩,fun h=>by omega,fun _ h=>absurd c6 h⟩
 ·by_cases c5:op=5
  ·rw [if_neg (by omega),if_pos c5] at hb
   simp only [Bool.and_eq_true,decide_eq_true_eq] at hb
   obtain⟨⟨⟨⟨b1,b2⟩,b3⟩,b4⟩,b5⟩:=hb
   exact⟨b1,fun h=>absurd h c6,fun _=>b5,fun h=>absurd c5 h⟩
  ·by_cases c1:op=1∨op=2∨op=3∨op=4
   ·rw [if_pos c1] at hb
    simp only [Bool.and_eq_true,decide_eq_true_eq] at hb
    exact⟨hb.1.1.1.1,fun h=>absurd h c6,fun h=>absurd h c5,fun _ _=>hb.1.1.1.2⟩
   ·rw [if_neg c1,if_neg c5,if_neg c6] at hb
    cases hb
abbrev setP (r:Rf) (l:List Int):Toks:=(refT r++[tIn,tLC])++sepT (fun n=>[digT n]) l
theorem test_w (st:Wst) (op n rel val:Int) (r:Rf) (s:List Int) (hv:leafB op n rel val r s=true) (hb0:st.sz+wt (leafT op n rel val r s)≤100000000):HoldsG cx 158 [.ptr 0 0 0, .p (Cd.mk op n rel val r s []).pv] (wH true st) (WQ (puts st (leafT op n rel val r s))):=by
 obtain⟨f1,f2,f3,f4⟩:=leafB_all hv
 by_cases h6:op=6
 ·subst h6
  obtain⟨g1,g2⟩:=f2 rfl
  have e:leafT 6 n rel val r s=(([]++[tCount,tLP])++refT r)++[tEq,digT val,tRP,relT rel,digT n]:=by
   rw [leafT,if_pos rfl];simp
  rw [e] at hb0 ⊢
  have hb:=hb0
  refine holdsN_of_vc Tryz.func158 rfl rfl rfl ?_
  refine And.intro (fun _=>?_) (fun h=>absurd rfl h)
  refine(put_h true (puts st ([])) ([tCount,tLP]) (by simp) (by have hz:=puts_sz ([]) st;simp only [wt_app,wt] at hb hz ⊢;omega)).holds.useT [] [(2,3)] rfl (sk) (sk) fun e0 H0 hq=>?_
  rw [← puts_app] at hq
  obtain⟨rfl,rfl⟩:=hq
  refine⟨rfl,_,⟨5,((4,bO (puts st ([]++[tCount,tLP])).s)::(0,wO 4 (puts st ([]++[tCount,tLP])))::[(2,cO ((Cd.mk 6 n rel val r s []).cells.map .p))])⟩,rfl,rfl,?_⟩
  refine(ref_w (puts st ([]++[tCount,tLP])) r f1 (by have hz:=puts_sz ([]++[tCount,tLP]) st;simp only [wt_app,wt] at hb hz ⊢;omega)).holds.useT [] [(1,4)] rfl (sk) (sk) fun e0 H0 hq=>?_
  unfold WQ at hq
  rw [← puts_app] at hq
  obtain⟨rfl,rfl⟩:=hq
  refine⟨rfl,_,⟨6,((5,bO (puts st (([]++[tCount,tLP])++refT r)).s)::(0,wO 5 (puts st (([]++[tCount,tLP])++refT r)))::[(2,cO ((Cd.mk 6 n rel val r s []).cells.map .p))])⟩,rfl,rfl,?_⟩
  refine VDraw.seq rfl ?_
  refine(itoa_c val g2).eq rfl ?_
  refine⟨sk,?_⟩
  refine(relw_c rel).eq rfl ?_
  refine⟨sk,?_⟩
  refine(itoa_c n g1).eq rfl ?_
  refine(put_h true (puts st (([]++[tCount,tLP])++refT r)) ([tEq,digT val,tRP,relT rel,digT n]) (by simp) (by have hz:=puts_sz (([]++[tCount,tLP])++refT r) st;simp only [wt_app,wt] at hb hz ⊢;omega)).holds.useT [] [(1,5),(2,6)] rfl (sk) (sk) fun e0 H0 hq=>?_
  rw [← puts_app] at hq
  obtain⟨rfl,rfl⟩:=hq
  refine⟨rfl,_,⟨8,((7,bO (puts st (([]++[tCount,tLP])++refT r++[tEq,digT val,tRP,relT rel,digT n])).s)::(0,wO 7 (puts st (([]++[tCount,tLP])++refT r++[tEq,digT val,tRP,relT rel,digT n])))::[(2,cO ((Cd.mk 6 n rel val r s []).cells.map .p))])⟩,rfl,rfl,?_⟩
  exact⟨[],[(2,7)],[], .returned und,_,rfl,sk,sk,rfl,rfl⟩
 by_cases h5:op=5
 ·subst h5
  obtain⟨s1,s2,s3⟩:=setB_facts (f3 rfl)
  have s8:s.length≤8:=by
   have:=f3 rfl
   simp only [setB,Bool.and_eq_true,decide_eq_true_eq] at this
   exact this.1.2
  have hm:(s.map i64).length=s.length:=List.length_map ..
  have e:leafT 5 n rel val r s=setP r s++[tRC]:=by
   rw [leafT,if_neg (by decide),if_pos rfl];simp [setP]
  rw [e] at hb0 ⊢
  refine holdsN_of_vc Tryz.func158 rfl rfl rfl ?_
  refine And.intro (fun h=>absurd (show(5:Int)=6 from h) (by decide)) (fun _=>?_)
  refine And.intro (fun _=>?_) (fun h=>absurd rfl h)
  have hb:st.sz+wt (([]++refT r)++[tIn,tLC])≤100000000:=by simp only [setP,wt_app,wt] at hb0 ⊢;omega
  refine(ref_w (puts st []) r f1 (by show st.sz+_≤_;simp only [wt_app,wt] at hb ⊢;omega)).holds.useT [] [] rfl (sk) (sk) fun e0 H0 hq=>?_
  unfold WQ at hq
  rw [← puts_app] at hq
  obtain⟨rfl,rfl⟩:=hq
  refine⟨rfl,_,⟨4,((3,bO (puts st ([]++refT r)).s)::(0,wO 3 (puts st ([]++refT r)))::[(2,cO ((Cd.mk 5 n rel val r s []).cells.map .p))])⟩,rfl,rfl,?_⟩
  refine(put_h true (puts st ([]++refT r)) ([tIn,tLC]) (by simp) (by have hz:=puts_sz ([]++refT r) st;simp only [wt_app,wt] at hb hz ⊢;omega)).holds.useT [] [(1,3),(2,4)] rfl (sk) (sk) fun e0 H0 hq=>?_
  rw [← puts_app] at hq
  obtain⟨rfl,rfl⟩:=hq
  refine⟨rfl,_,⟨6,((5,bO (puts st ([]++refT r++[tIn,tLC])).s)::(0,wO 5 (puts st ([]++refT r++[tIn,tLC])))::[(2,cO ((Cd.mk 5 n rel val r s []).cells.map .p))])⟩,rfl,rfl,?_⟩
  refine⟨Toks × Nat,fun x=>[(0, .ptr 0 0 0),(55, .p (ints s)),(56, .p (i64 (s.map i64).length)),(57, .p (i64 x.2))],fun x=>wH' (puts st x.1),fun x=>x.2≤s.length∧x.1=setP r (s.take x.2),fun x=>s.length - x.2,?_,?_⟩
  ·exact⟨(([]++refT r)++[tIn,tLC],0),⟨Nat.zero_le _,by simp [setP,sepT]⟩,ent_of [] [(2,5)] [] rfl (sk) (sk) rfl⟩
  clear hb
  rintro⟨P,k⟩ ⟨k1,k2⟩
  simp only [] at k1 k2
  (first | refine brLt (fun m1=>?_) (fun m1=>?_) | refine brLe (fun m1=>?_) (fun m1=>?_) | refine brEq (fun m1=>?_) (fun m1=>?_))
  rotate_left
  ·have m1:¬ (k:Int)<((s.map i64).length:Nat):=m1
   rw [hm] at m1
   have e:s.take k=s:=take_all (by omega)
   rw [e] at k2
   rw [← k2] at hb0
   have hb:=hb0
   refine(put_h true (puts st (P)) ([tRC]) (by simp) (by have hz:=puts_sz (P) st;simp only [wt_app,wt] at hb hz ⊢;omega)).holds.useT [] [(1,2),(2,3)] rfl (sk) (sk) fun e0 H0 hq=>?_
   rw [← puts_app] at hq
   obtain⟨rfl,rfl⟩:=hq
   refine⟨rfl,_,⟨5,((4,bO (puts st (P++[tRC])).s)::(0,wO 4 (puts st (P++[tRC])))::[])⟩,rfl,rfl,?_⟩
   exact⟨[],[(2,4)],[], .returned und,wH' (puts st (P++[tRC])),rfl,sk,sk,rfl,by rw [k2]⟩
  have m1:(k:Int)<((s.map i64).length:Nat):=m1
  rw [hm] at m1
  have hk:k<s.length:=by omega
  have hn:=s2 _ (getD_memL 0 hk)
  have hw:=sep_wt (f:=fun n=>[digT n]) s (k+1)
  have hcell:=icell hk
  have et:setP r (s.take (k+1))=setP r (s.take k)++((if k=0 then [] else [tComma])++[digT (s.getD k 0)]):=by
   rw [setP,sep_take 0 hk];simp [setP]
  have hb:st.sz+wt (setP r (s.take (k+1)))≤100000000:=by
   simp only [setP,wt_app,wt] at hb0 hw ⊢;omega
  rw [et] at hb
  rw [← k2] at et hb
  clear k2
  generalize s.getD k 0=x at hn hcell et hb
  refine⟨_,⟨by omega,i64 x,hcell,rfl⟩,?_⟩
  by_cases c:k=0
  ·rw [if_pos c] at et hb
   refine And.intro (fun h=>absurd (show(0:Int)<(k:Nat) from h) (by omega)) (fun _=>?_)
   refine(itoa_c x hn).eq rfl ?_
   have hb:st.sz+wt (P++[digT x])≤100000000:=hb
   refine(put_h true (puts st (P)) ([digT x]) (by simp) (by have hz:=puts_sz (P) st;simp only [wt_app,wt] at hb hz ⊢;omega)).holds.useT [] [(1,2),(2,3)] rfl (sk) (sk) fun e0 H0 hq=>?_
   rw [← puts_app] at hq
   obtain⟨rfl,rfl⟩:=hq
   refine⟨rfl,_,⟨5,((4,bO (puts st (P++[digT x])).s)::(0,wO 4 (puts st (P++[digT x])))::[])⟩,rfl,rfl,?_⟩
   refine⟨_,wrap_i64 (by omega) (by omega),?_⟩
   exact⟨(P++[digT x],k+1),⟨hk,et.symm⟩,ent_of [] [(2,4)] [] rfl (sk) (sk) rfl,by show s.length - (k+1)<s.length - k;omega⟩
  ·rw [if_neg c] at et hb
   rw [← List.append_assoc] at et hb
   refine And.intro (fun _=>?_) (fun h=>absurd (show(0:Int)<(k:Nat) by omega) h)
   refine(put_h true (puts st (P)) ([tComma]) (by simp) (by have hz:=puts_sz (P) st;simp only [wt_app,wt] at hb hz ⊢;omega)).holds.useT [] [(1,2),(2,3)] rfl (sk) (sk) fun e0 H0 hq=>?_
   rw [← puts_app] at hq
   obtain⟨rfl,rfl⟩:=hq
   refine⟨rfl,_,⟨5,((4,bO (puts st (P++[tComma])).s)::(0,wO 4 (puts st (P++[tComma])))::[])⟩,rfl,rfl,?_⟩
   refine(itoa_c x hn).eq rfl ?_
   refine(put_h true (puts st (P++[tComma])) ([digT x]) (by simp) (by have hz:=puts_sz (P++[tComma]) st;simp only [wt_app,wt] at hb hz ⊢;omega)).holds.useT [] [(1,4),(2,5)] rfl (sk) (sk) fun e0 H0 hq=>?_
   rw [← puts_app] at hq
   obtain⟨rfl,rfl⟩:=hq
   refine⟨rfl,_,⟨7,((6,bO (puts st (P++[tComma]++[digT x])).s)::(0,wO 6 (puts st (P++[tComma]++[digT x])))::[])⟩,rfl,rfl,?_⟩
   refine⟨_,wrap_i64 (by omega) (by omega),?_⟩
   exact⟨((P++[tComma])++[digT x],k+1),⟨hk,et.symm⟩,ent_of [] [(2,6)] [] rfl (sk) (sk) rfl,by show s.length - (k+1)<s.length - k;omega⟩
 ·have e:leafT op n rel val r s=([]++refT r)++[relT op,digT n]:=by
   rw [leafT,if_neg h6,if_neg h5];rfl
  have g1:=f4 h5 h6
  rw [e] at hb0 ⊢
  have hb:=hb0
  refine holdsN_of_vc Tryz.func158 rfl rfl rfl ?_
  refine And.intro (fun h=>absurd h h6) (fun _=>?_)
  refine And.intro (fun h=>absurd h h5) (fun _=>?_)
  refine(ref_w (puts st []) r f1 (by show st.sz+_≤_;simp only [wt_app,wt] at hb ⊢;omega)).holds.useT [] [] rfl (sk) (sk) fun e0 H0 hq=>?_
  unfold WQ at hq
  rw [← puts_app] at hq
  obtain⟨rfl,rfl⟩:=hq
  refine⟨rfl,_,⟨4,((3,bO (puts st ([]++refT r)).s)::(0,wO 3 (puts st ([]++refT r)))::[(2,cO ((Cd.mk op n rel val r s []).cells.map .p))])⟩,rfl,rfl,?_⟩
  refine VDraw.seq rfl ?_
  refine(relw_c op).eq rfl ?_
  refine⟨sk,?_⟩
  refine(itoa_c n g1).eq rfl ?_
  refine(put_h true (puts st ([]++refT r)) ([relT op,digT n]) (by simp) (by have hz:=puts_sz ([]++refT r) st;simp only [wt_app,wt] at hb hz ⊢;omega)).holds.useT [] [(1,3),(2,4)] rfl (sk) (sk) fun e0 H0 hq=>?_
  rw [← puts_app] at hq
  obtain⟨rfl,rfl⟩:=hq
  refine⟨rfl,_,⟨6,((5,bO (puts st ([]++refT r++[relT op,digT n])).s)::(0,wO 5 (puts st ([]++refT r++[relT op,digT n])))::[(2,cO ((Cd.mk op n rel val r s []).cells.map .p))])⟩,rfl,rfl,?_⟩
  exact⟨[],[(2,5)],[], .returned und,_,rfl,sk,sk,rfl,rfl⟩
theorem within_par {k:Nat} {c:Cd} (h:lvl c.op<k):withinT k c=tLP::(condT c++[tRP]):=if_pos h
def CwOK (d:Nat):Prop:=∀ (c:Cd),(∃ l k,condV d c l=some k)→∀ (st:Wst) (L:Nat),L≤2→st.sz+wt (withinT (L+1) c)≤100000000→HoldsG cx 115 [.ptr 0 0 0, .p c.pv, .p (i64 L)] (wH true st) (WQ (puts st (withinT (L+1) c)))
abbrev ccO (c:Cd):AObj:=cO (c.cells.map .p)
theorem cond_wStep {d:Nat} (ih:CwOK d):CwOK (d+1):=by
 intro c ⟨l,k,hv⟩ st L hL hb
 cases cond_shape hv with
 | leaf op n rel val r s h7 h8 h9 hl=>
  have hX:withinT (L+1) (.mk op n rel val r s [])=[]++leafT op n rel val r s:=by
   rw [within_at (by show ¬ lvl op<L+1;rw [lvl_leaf h7 h8 h9];omega),condT_leaf h7 h8 h9];rfl
  rw [hX] at hb ⊢
  refine holdsN_of_vc Tryz.func115 rfl rfl rfl ?_
  refine And.intro (fun h=>absurd h h9) (fun _=>?_)
  refine And.intro (fun h=>absurd h h8) (fun _=>?_)
  refine And.intro (fun h=>absurd (show(2:Int)<(L:Nat) from h) (by omega)) (fun _=>?_)
  refine And.intro (fun h=>absurd h h9) (fun _=>?_)
  refine And.intro (fun h=>absurd h h8) (fun _=>?_)
  refine And.intro (fun h=>absurd h h7) (fun _=>?_)
  refine(test_w (puts st []) op n rel val r s hl hb).holds.useT [] [] rfl (sk) (sk) fun e0 H0 hq=>?_
  unfold WQ at hq
  rw [← puts_app] at hq
  obtain⟨rfl,rfl⟩:=hq
  refine⟨rfl,_,⟨4,((3,bO (puts st ([]++leafT op n rel val r s)).s)::(0,wO 3 (puts st ([]++leafT op n rel val r s)))::[(2,ccO _)])⟩,rfl,rfl,?_⟩
  exact⟨[],[(2,3)],[], .returned und,wH' (puts st ([]++leafT op n rel val r s)),rfl,sk,sk,rfl,rfl⟩
 | neg a pa=>
  obtain⟨A,hA⟩:∃ A,A=withinT 3 a:=⟨_,rfl⟩
  have hX:withinT (L+1) (.mk 7 0 0 0 rf0 [] [a])=([]++[tNot])++A:=by
   rw [within_at (by show ¬ lvl 7<L+1;have:lvl 7=3:=rfl;omega),condT_neg,hA];rfl
  rw [hX] at hb ⊢
  have ha:=fun s h=>ih a pa s 2 (by omega) h
  have ha:∀ s:Wst,s.sz+wt A≤100000000→HoldsG cx 115 [.ptr 0 0 0, .p a.pv, .p (i64 (2:Nat))] (wH true s) (WQ (puts s A)):=fun s h=>by rw [hA] at h ⊢;exact ha s h
  clear hA hX hv pa
  obtain⟨ao,an,ar,av,af,at',aa⟩:=a
  refine holdsN_of_vc Tryz.func115 rfl rfl rfl ?_
  refine And.intro (fun h=>absurd (show(7:Int)=9 from h) (by decide)) (fun _=>?_)
  refine And.intro (fun h=>absurd (show(7:Int)=8 from h) (by decide)) (fun _=>?_)
  refine And.intro (fun h=>absurd (show(2:Int)<(L:Nat) from h) (by omega)) (fun _=>?_)
  refine And.intro (fun h=>absurd (show(7:Int)=9 from h) (by decide)) (fun _=>?_)
  refine And.intro (fun h=>absurd (show(7:Int)=8 from h) (by decide)) (fun _=>?_)
  refine And.intro (fun _=>?_) (fun h=>absurd rfl h)
  refine(put_h true (puts st ([])) ([tNot]) (by simp) (by have hz:=puts_sz ([]) st;simp only [wt_app,wt] at hb hz ⊢;omega)).holds.useT [] [(2,3)] rfl (sk) (sk) fun e0 H0 hq=>?_
  rw [← puts_app] at hq
  obtain⟨rfl,rfl⟩:=hq
  refine⟨rfl,_,⟨5,((4,bO (puts st ([]++[tNot])).s)::(0,wO 4 (puts st ([]++[tNot])))::[(2,ccO _)])⟩,rfl,rfl,?_⟩
  refine⟨_,⟨by decide,_,rfl,rfl⟩,?_⟩
  refine(ha (puts st ([]++[tNot])) (by have hz:=puts_sz ([]++[tNot]) st;simp only [wt_app,wt] at hb hz ⊢;omega)).holds.useT [] [(1,4)] rfl (sk) (sk) fun e0 H0 hq=>?_
  unfold WQ at hq
  rw [← puts_app] at hq
  obtain⟨rfl,rfl⟩:=hq
  refine⟨rfl,_,⟨6,((5,bO (puts st (([]++[tNot])++A)).s)::(0,wO 5 (puts st (([]++[tNot])++A)))::[(2,ccO _)])⟩,rfl,rfl,?_⟩
  exact⟨[],[(2,5)],[], .returned und,wH' (puts st (([]++[tNot])++A)),rfl,sk,sk,rfl,rfl⟩
 | conj a b pa pb=>
  have ha:=fun s h=>ih a pa s 1 (by omega) h
  have hc:=fun s h=>ih b pb s 2 (by omega) h
  obtain⟨A,hA⟩:∃ A,A=withinT 2 a:=⟨_,rfl⟩
  obtain⟨B,hB⟩:∃ B,B=withinT 3 b:=⟨_,rfl⟩
  have ha:∀ s:Wst,s.sz+wt A≤100000000→HoldsG cx 115 [.ptr 0 0 0, .p a.pv, .p (i64 (1:Nat))] (wH true s) (WQ (puts s A)):=fun s h=>by rw [hA] at h ⊢;exact ha s h
  have hc:∀ s:Wst,s.sz+wt B≤100000000→HoldsG cx 115 [.ptr 0 0 0, .p b.pv, .p (i64 (2:Nat))] (wH true s) (WQ (puts s B)):=fun s h=>by rw [hB] at h ⊢;exact hc s h
  have hC:condT (.mk 8 0 0 0 rf0 [] [a,b])=A++tAnd::B:=by rw [condT_conj,hA,hB]
  by_cases hp:1<L
  ·have hX:withinT (L+1) (.mk 8 0 0 0 rf0 [] [a,b])=(((([]++[tLP])++A)++[tAnd])++B)++[tRP]:=by
    rw [within_par (show lvl 8<L+1 by have:lvl 8=2:=rfl;omega),hC];simp
   rw [hX] at hb
   clear hA hB hC pa pb hv
   generalize withinT (L+1) (.mk 8 0 0 0 rf0 [] [a,b])=X at hX ⊢
   obtain⟨ao,an,ar,av,af,at',aa⟩:=a
   obtain⟨bo,bn,br,bv,bf,bt,ba⟩:=b
   refine holdsN_of_vc Tryz.func115 rfl rfl rfl ?_
   refine And.intro (fun h=>absurd (show(8:Int)=9 from h) (by decide)) (fun _=>?_)
   refine And.intro (fun _=>?_) (fun h=>absurd rfl h)
   refine And.intro (fun _=>?_) (fun h=>absurd (show(1:Int)<(L:Nat) by omega) h)
   refine(put_h true (puts st ([])) ([tLP]) (by simp) (by have hz:=puts_sz ([]) st;simp only [wt_app,wt] at hb hz ⊢;omega)).holds.useT [] [(2,3)] rfl (sk) (sk) fun e0 H0 hq=>?_
   rw [← puts_app] at hq
   obtain⟨rfl,rfl⟩:=hq
   refine⟨rfl,_,⟨5,((4,bO (puts st ([]++[tLP])).s)::(0,wO 4 (puts st ([]++[tLP])))::[(2,ccO _)])⟩,rfl,rfl,?_⟩
   refine And.intro (fun h=>absurd (show(8:Int)=9 from h) (by decide)) (fun _=>?_)
   refine And.intro (fun _=>?_) (fun h=>absurd rfl h)
   refine⟨_,⟨by decide,_,rfl,rfl⟩,?_⟩
   refine(ha (puts st ([]++[tLP])) (by have hz:=puts_sz ([]++[tLP]) st;simp only [wt_app,wt] at hb hz ⊢;omega)).holds.useT [] [(1,4)] rfl (sk) (sk) fun e0 H0 hq=>?_
   unfold WQ at hq
   rw [← puts_app] at hq
   obtain⟨rfl,rfl⟩:=hq
   refine⟨rfl,_,⟨7,((6,bO (puts st (([]++[tLP])++A)).s)::(0,wO 6 (puts st (([]++[tLP])++A)))::[(5,sU [tRP]),(2,ccO _)])⟩,rfl,rfl,?_⟩
   refine(put_h true (puts st (([]++[tLP])++A)) ([tAnd]) (by simp) (by have hz:=puts_sz (([]++[tLP])++A) st;simp only [wt_app,wt] at hb hz ⊢;omega)).holds.useT [] [(1,6),(2,7)] rfl (sk) (sk) fun e0 H0 hq=>?_
   rw [← puts_app] at hq
   obtain⟨rfl,rfl⟩:=hq
   refine⟨rfl,_,⟨9,((8,bO (puts st (([]++[tLP])++A++[tAnd])).s)::(0,wO 8 (puts st (([]++[tLP])++A++[tAnd])))::[(5,sU [tRP]),(2,ccO _)])⟩,rfl,rfl,?_⟩
   refine⟨_,⟨by decide,_,rfl,rfl⟩,?_⟩
   refine(hc (puts st ((([]++[tLP])++A)++[tAnd])) (by have hz:=puts_sz ((([]++[tLP])++A)++[tAnd]) st;simp only [wt_app,wt] at hb hz ⊢;omega)).holds.useT [] [(1,8)] rfl (sk) (sk) fun e0 H0 hq=>?_
   unfold WQ at hq
   rw [← puts_app] at hq
   obtain⟨rfl,rfl⟩:=hq
   refine⟨rfl,_,⟨10,((9,bO (puts st (((([]++[tLP])++A)++[tAnd])++B)).s)::(0,wO 9 (puts st (((([]++[tLP])++A)++[tAnd])++B)))::[(5,sU [tRP]),(2,ccO _)])⟩,rfl,rfl,?_⟩
   refine(putd_h true (puts st (((([]++[tLP])++A)++[tAnd])++B)) [tRP] (by simp) (by have hz:=puts_sz (((([]++[tLP])++A)++[tAnd])++B) st;simp only [wt_app,wt] at hb hz ⊢;omega)).useT [] [(1,9),(2,5)] rfl (sk) (sk) fun e0 H0 hq=>?_
   rw [← puts_app] at hq
   obtain⟨rfl,rfl⟩:=hq
   refine⟨rfl,_,⟨11,((10,bO (puts st ((((([]++[tLP])++A)++[tAnd])++B)++[tRP])).s)::(0,wO 10 (puts st ((((([]++[tLP])++A)++[tAnd])++B)++[tRP])))::[(2,ccO _)])⟩,rfl,rfl,?_⟩
   exact⟨[],[(2,10)],[], .returned und,wH' (puts st ((((([]++[tLP])++A)++[tAnd])++B)++[tRP])),rfl,sk,sk,rfl,by rw [hX]⟩
  ·have hX:withinT (L+1) (.mk 8 0 0 0 rf0 [] [a,b])=(([]++A)++[tAnd])++B:=by
    rw [within_at (by show ¬ lvl 8<L+1;have:lvl 8=2:=rfl;omega),hC];simp
   rw [hX] at hb
   clear hA hB hC pa pb hv
   generalize withinT (L+1) (.mk 8 0 0 0 rf0 [] [a,b])=X at hX ⊢
   obtain⟨ao,an,ar,av,af,at',aa⟩:=a
   obtain⟨bo,bn,br,bv,bf,bt,ba⟩:=b
   refine holdsN_of_vc Tryz.func115 rfl rfl rfl ?_
   refine And.intro (fun h=>absurd (show(8:Int)=9 from h) (by decide)) (fun _=>?_)
   refine And.intro (fun _=>?_) (fun h=>absurd rfl h)
   refine And.intro (fun h=>absurd (show(1:Int)<(L:Nat) from h) (by omega)) (fun _=>?_)
   refine And.intro (fun h=>absurd (show(8:Int)=9 from h) (by decide)) (fun _=>?_)
   refine And.intro (fun _=>?_) (fun h=>absurd rfl h)
   refine⟨_,⟨by decide,_,rfl,rfl⟩,?_⟩
   refine(ha (puts st []) (by show st.sz+wt A≤100000000;simp only [wt_app,wt] at hb ⊢;omega)).holds.useT [] [] rfl (sk) (sk) fun e0 H0 hq=>?_
   unfold WQ at hq
   rw [← puts_app] at hq
   obtain⟨rfl,rfl⟩:=hq
   refine⟨rfl,_,⟨4,((3,bO (puts st ([]++A)).s)::(0,wO 3 (puts st ([]++A)))::[(2,ccO _)])⟩,rfl,rfl,?_⟩
   refine(put_h true (puts st ([]++A)) ([tAnd]) (by simp) (by have hz:=puts_sz ([]++A) st;simp only [wt_app,wt] at hb hz ⊢;omega)).holds.useT [] [(1,3),(2,4)] rfl (sk) (sk) fun e0 H0 hq=>?_
   rw [← puts_app] at hq
   obtain⟨rfl,rfl⟩:=hq
   refine⟨rfl,_,⟨6,((5,bO (puts st ([]++A++[tAnd])).s)::(0,wO 5 (puts st ([]++A++[tAnd])))::[(2,ccO _)])⟩,rfl,rfl,?_⟩
   refine⟨_,⟨by decide,_,rfl,rfl⟩,?_⟩
   refine(hc (puts st (([]++A)++[tAnd])) (by have hz:=puts_sz (([]++A)++[tAnd]) st;simp only [wt_app,wt] at hb hz ⊢;omega)).holds.useT [] [(1,5)] rfl (sk) (sk) fun e0 H0 hq=>?_
   unfold WQ at hq
   rw [← puts_app] at hq
   obtain⟨rfl,rfl⟩:=hq
   refine⟨rfl,_,⟨7,((6,bO (puts st ((([]++A)++[tAnd])++B)).s)::(0,wO 6 (puts st ((([]++A)++[tAnd])++B)))::[(2,ccO _)])⟩,rfl,rfl,?_⟩
   exact⟨[],[(2,6)],[], .returned und,wH' (puts st ((([]++A)++[tAnd])++B)),rfl,sk,sk,rfl,by rw [hX]⟩
 | disj a b pa pb=>
  have ha:=fun s h=>ih a pa s 0 (by omega) h
  have hc:=fun s h=>ih b pb s 1 (by omega) h
  obtain⟨A,hA⟩:∃ A,A=withinT 1 a:=⟨_,rfl⟩
  obtain⟨B,hB⟩:∃ B,B=withinT 2 b:=⟨_,rfl⟩
  have ha:∀ s:Wst,s.sz+wt A≤100000000→HoldsG cx 115 [.ptr 0 0 0, .p a.pv, .p (i64 (0:Nat))] (wH true s) (WQ (puts s A)):=fun s h=>by rw [hA] at h ⊢;exact ha s h
  have hc:∀ s:Wst,s.sz+wt B≤100000000→HoldsG cx 115 [.ptr 0 0 0, .p b.pv, .p (i64 (1:Nat))] (wH true s) (WQ (puts s B)):=fun s h=>by rw [hB] at h ⊢;exact hc s h
  have hC:condT (.mk 9 0 0 0 rf0 [] [a,b])=A++tOr::B:=by rw [condT_disj,hA,hB]
  by_cases hp:0<L
  ·have hX:withinT (L+1) (.mk 9 0 0 0 rf0 [] [a,b])=(((([]++[tLP])++A)++[tOr])++B)++[tRP]:=by
    rw [within_par (show lvl 9<L+1 by have:lvl 9=1:=rfl;omega),hC];simp
   rw [hX] at hb
   clear hA hB hC pa pb hv
   generalize withinT (L+1) (.mk 9 0 0 0 rf0 [] [a,b])=X at hX ⊢
   obtain⟨ao,an,ar,av,af,at',aa⟩:=a
   obtain⟨bo,bn,br,bv,bf,bt,ba⟩:=b
   refine holdsN_of_vc Tryz.func115 rfl rfl rfl ?_
   refine And.intro (fun _=>?_) (fun h=>absurd rfl h)
   refine And.intro (fun _=>?_) (fun h=>absurd (show(0:Int)<(L:Nat) by omega) h)
   refine(put_h true (puts st ([])) ([tLP]) (by simp) (by have hz:=puts_sz ([]) st;simp only [wt_app,wt] at hb hz ⊢;omega)).holds.useT [] [(2,3)] rfl (sk) (sk) fun e0 H0 hq=>?_
   rw [← puts_app] at hq
   obtain⟨rfl,rfl⟩:=hq
   refine⟨rfl,_,⟨5,((4,bO (puts st ([]++[tLP])).s)::(0,wO 4 (puts st ([]++[tLP])))::[(2,ccO _)])⟩,rfl,rfl,?_⟩
   refine And.intro (fun _=>?_) (fun h=>absurd rfl h)
   refine⟨_,⟨by decide,_,rfl,rfl⟩,?_⟩
   refine(ha (puts st ([]++[tLP])) (by have hz:=puts_sz ([]++[tLP]) st;simp only [wt_app,wt] at hb hz ⊢;omega)).holds.useT [] [(1,4)] rfl (sk) (sk) fun e0 H0 hq=>?_
   unfold WQ at hq
   rw [← puts_app] at hq
   obtain⟨rfl,rfl⟩:=hq
   refine⟨rfl,_,⟨7,((6,bO (puts st (([]++[tLP])++A)).s)::(0,wO 6 (puts st (([]++[tLP])++A)))::[(5,sU [tRP]),(2,ccO _)])⟩,rfl,rfl,?_⟩
   refine(put_h true (puts st (([]++[tLP])++A)) ([tOr]) (by simp) (by have hz:=puts_sz (([]++[tLP])++A) st;simp only [wt_app,wt] at hb hz ⊢;omega)).holds.useT [] [(1,6),(2,7)] rfl (sk) (sk) fun e0 H0 hq=>?_
   rw [← puts_app] at hq
   obtain⟨rfl,rfl⟩:=hq
   refine⟨rfl,_,⟨9,((8,bO (puts st (([]++[tLP])++A++[tOr])).s)::(0,wO 8 (puts st (([]++[tLP])++A++[tOr])))::[(5,sU [tRP]),(2,ccO _)])⟩,rfl,rfl,?_⟩
   refine⟨_,⟨by decide,_,rfl,rfl⟩,?_⟩
   refine(hc (puts st ((([]++[tLP])++A)++[tOr])) (by have hz:=puts_sz ((([]++[tLP])++A)++[tOr]) st;simp only [wt_app,wt] at hb hz ⊢;omega)).holds.useT [] [(1,8)] rfl (sk) (sk) fun e0 H0 hq=>?_
   unfold WQ at hq
   rw [← puts_app] at hq
   obtain⟨rfl,rfl⟩:=hq
   refine⟨rfl,_,⟨10,((9,bO (puts st (((([]++[tLP])++A)++[tOr])++B)).s)::(0,wO 9 (puts st (((([]++[tLP])++A)++[tOr])++B)))::[(5,sU [tRP]),(2,ccO _)])⟩,rfl,rfl,?_⟩
   refine(putd_h true (puts st (((([]++[tLP])++A)++[tOr])++B)) [tRP] (by simp) (by have hz:=puts_sz (((([]++[tLP])++A)++[tOr])++B) st;simp only [wt_app,wt] at hb hz ⊢;omega)).useT [] [(1,9),(2,5)] rfl (sk) (sk) fun e0 H0 hq=>?_
   rw [← puts_app] at hq
   obtain⟨rfl,rfl⟩:=hq
   refine⟨rfl,_,⟨11,((10,bO (puts st ((((([]++[tLP])++A)++[tOr])++B)++[tRP])).s)::(0,wO 10 (puts st ((((([]++[tLP])++A)++[tOr])++B)++[tRP])))::[(2,ccO _)])⟩,rfl,rfl,?_⟩
   exact⟨[],[(2,10)],[], .returned und,wH' (puts st ((((([]++[tLP])++A)++[tOr])++B)++[tRP])),rfl,sk,sk,rfl,by rw [hX]⟩
  ·have hX:withinT (L+1) (.mk 9 0 0 0 rf0 [] [a,b])=(([]++A)++[tOr])++B:=by
    rw [within_at (by show ¬ lvl 9<L+1;have:lvl 9=1:=rfl;omega),hC];simp
   rw [hX] at hb
   clear hA hB hC pa pb hv
   generalize withinT (L+1) (.mk 9 0 0 0 rf0 [] [a,b])=X at hX ⊢
   obtain⟨ao,an,ar,av,af,at',aa⟩:=a
   obtain⟨bo,bn,br,bv,bf,bt,ba⟩:=b
   refine holdsN_of_vc Tryz.func115 rfl rfl rfl ?_
   refine And.intro (fun _=>?_) (fun h=>absurd rfl h)
   refine And.intro (fun h=>absurd (show(0:Int)<(L:Nat) from h) (by omega)) (fun _=>?_)
   refine And.intro (fun _=>?_) (fun h=>absurd rfl h)
   refine⟨_,⟨by decide,_,rfl,rfl⟩,?_⟩
   refine(ha (puts st []) (by show st.sz+wt A≤100000000;simp only [wt_app,wt] at hb ⊢;omega)).holds.useT [] [] rfl (sk) (sk) fun e0 H0 hq=>?_
   unfold WQ at hq
   rw [← puts_app] at hq
   obtain⟨rfl,rfl⟩:=hq
   refine⟨rfl,_,⟨4,((3,bO (puts st ([]++A)).s)::(0,wO 3 (puts st ([]++A)))::[(2,ccO _)])⟩,rfl,rfl,?_⟩
   refine(put_h true (puts st ([]++A)) ([tOr]) (by simp) (by have hz:=puts_sz ([]++A) st;simp only [wt_app,wt] at hb hz ⊢;omega)).holds.useT [] [(1,3),(2,4)] rfl (sk) (sk) fun e0 H0 hq=>?_
   rw [← puts_app] at hq
   obtain⟨rfl,rfl⟩:=hq
   refine⟨rfl,_,⟨6,((5,bO (puts st ([]++A++[tOr])).s)::(0,wO 5 (puts st ([]++A++[tOr])))::[(2,ccO _)])⟩,rfl,rfl,?_⟩
   refine⟨_,⟨by decide,_,rfl,rfl⟩,?_⟩
   refine(hc (puts st (([]++A)++[tOr])) (by have hz:=puts_sz (([]++A)++[tOr]) st;simp only [wt_app,wt] at hb hz ⊢;omega)).holds.useT [] [(1,5)] rfl (sk) (sk) fun e0 H0 hq=>?_
   unfold WQ at hq
   rw [← puts_app] at hq
   obtain⟨rfl,rfl⟩:=hq
   refine⟨rfl,_,⟨7,((6,bO (puts st ((([]++A)++[tOr])++B)).s)::(0,wO 6 (puts st ((([]++A)++[tOr])++B)))::[(2,ccO _)])⟩,rfl,rfl,?_⟩
   exact⟨[],[(2,6)],[], .returned und,wH' (puts st ((([]++A)++[tOr])++B)),rfl,sk,sk,rfl,by rw [hX]⟩
theorem cond_w:∀ d,CwOK d
 | 0=>fun c h=>by obtain⟨l,k,h⟩:=h;cases h
 | d+1=>cond_wStep (cond_w d)
theorem lvl_pos (op:Int):1≤lvl op:=by
 unfold lvl
 split
 ·decide
 ·split
  ·decide
  ·split <;> decide
theorem cond_w0 {op n rel val:Int} {r:Rf} {s:List Int} {ar:List Cd} (k:Nat) (h:condV 8 (.mk op n rel val r s ar) 30=some k) (st:Wst) (hb:st.sz+wt (condT (.mk op n rel val r s ar))≤100000000):HoldsG cx 115 [.ptr 0 0 0, .p (Cd.mk op n rel val r s ar).pv, .p (i64 0)] (wH true st) (WQ (puts st (condT (.mk op n rel val r s ar)))):=by
 have e:withinT (0+1) (.mk op n rel val r s ar)=condT (.mk op n rel val r s ar):=within_at (by have:=lvl_pos op;show ¬ lvl op<0+1;omega)
 have:=cond_w 8 _ ⟨_,_,h⟩ st 0 (by omega) (by rw [e];exact hb)
 rw [e] at this
 exact this
def cseO (c:Cs):AObj:=⟨TCase,false, .bx (c.cells.map .p)⟩
theorem dropCs {l:List Cs} {k:Nat} (h:k<l.length):l.drop k=l.getD k cs0::l.drop (k+1):=by
 rw [List.getD_eq_getElem?_getD,List.getElem?_eq_getElem h];exact List.drop_eq_getElem_cons h
theorem dropIs {l:List Int} {k:Nat} (h:k<l.length):l.drop k=l.getD k 0::l.drop (k+1):=by
 rw [List.getD_eq_getElem?_getD,List.getElem?_eq_getElem h];exact List.drop_eq_getElem_cons h
theorem casesTx_last {l:List Cs} {i:Nat} {c:Cd} {ns:List Int} (h:i+1=l.length) (hx:l.getD i cs0=⟨c,ns⟩):casesTx (l.drop i)=[tElse]++([tCol]++numsT ns):=by
 rw [dropCs (by omega),hx,List.drop_eq_nil_of_le (show l.length≤i+1 by omega)];rfl
theorem casesTx_step {l:List Cs} {i:Nat} {c:Cd} {ns:List Int} (h:i+1<l.length) (hx:l.getD i cs0=⟨c,ns⟩):casesTx (l.drop i)=condT c++([tCol]++(numsT ns++([tSemi]++casesTx (l.drop (i+1))))):=by
 obtain⟨d,r,hd⟩:∃ d r,l.drop (i+1)=d::r:=⟨_,_,dropCs h⟩
 rw [dropCs (by omega),hx,hd];rfl
theorem rule_w (st:Wst) (l:List Cs) (hv:casesB l=true) (hb0:st.sz+wt (ruleT l)≤100000000):HoldsG cx 72 [.ptr 0 0 0, .p (css l)] (wH true st) (WQ (puts st (ruleT l))):=by
 have h0:([]++[tLC])++(casesTx (l.drop 0)++[tRC])=ruleT l:=rfl
 generalize ruleT l=G at h0 hb0 ⊢
 have hm:(l.map Cs.cells).length=l.length:=List.length_map ..
 simp only [casesB,Bool.and_eq_true,decide_eq_true_eq] at hv
 obtain⟨⟨v1,v2⟩,v3⟩:=hv
 refine holdsN_of_vc Tryz.func72 rfl rfl rfl ?_
 have hb:st.sz+wt ([]++[tLC])≤100000000:=by rw [← h0,wt_app] at hb0;omega
 refine(put_h true (puts st ([])) ([tLC]) (by simp) (by have hz:=puts_sz ([]) st;simp only [wt_app,wt] at hb hz ⊢;omega)).holds.useT [] [] rfl (sk) (sk) fun e0 H0 hq=>?_
 rw [← puts_app] at hq
 obtain⟨rfl,rfl⟩:=hq
 refine⟨rfl,_,⟨4,((3,bO (puts st ([]++[tLC])).s)::(0,wO 3 (puts st ([]++[tLC])))::[])⟩,rfl,rfl,?_⟩
 refine⟨Toks × Nat,fun x=>[(0, .ptr 0 0 0),(1, .p (css l)),(12, .p (css l)),(13, .p (i64 (l.map Cs.cells).length)),(14, .p (i64 x.2))],fun x=>wH' (puts st x.1),fun x=>x.2≤l.length∧casesT (l.drop x.2)=true∧x.1++(casesTx (l.drop x.2)++[tRC])=G,fun x=>l.length - x.2,?_,?_⟩
 ·exact⟨([]++[tLC],0),⟨Nat.zero_le _,v3,h0⟩,ent_of [] [(2,3)] [] rfl (sk) (sk) rfl⟩
 clear h0 hb
 rintro⟨P,i⟩ ⟨i0,i2,i3⟩
 simp only [] at i0 i2 i3
 (first | refine brLt (fun j1=>?_) (fun j1=>?_) | refine brLe (fun j1=>?_) (fun j1=>?_) | refine brEq (fun j1=>?_) (fun j1=>?_))
 rotate_left
 ·have j1:¬ (i:Int)<((l.map Cs.cells).length:Nat):=j1
  rw [hm] at j1
  rw [List.drop_eq_nil_of_le (by omega)] at i3
  have i3:P++[tRC]=G:=i3
  have hb:st.sz+wt (P++[tRC])≤100000000:=by rw [i3];exact hb0
  refine(put_h true (puts st (P)) ([tRC]) (by simp) (by have hz:=puts_sz (P) st;simp only [wt_app,wt] at hb hz ⊢;omega)).holds.useT [] [(1,2),(2,3)] rfl (sk) (sk) fun e0 H0 hq=>?_
  rw [← puts_app] at hq
  obtain⟨rfl,rfl⟩:=hq
  refine⟨rfl,_,⟨5,((4,bO (puts st (P++[tRC])).s)::(0,wO 4 (puts st (P++[tRC])))::[])⟩,rfl,rfl,?_⟩
  exact⟨[],[(2,4)],[], .returned und,wH' (puts st (P++[tRC])),rfl,sk,sk,rfl,by rw [i3]⟩
 have j1:(i:Int)<((l.map Cs.cells).length:Nat):=j1
 rw [hm] at j1
 have i1:i<l.length:=by omega
 have hcell:=scell i1
 have hstep:=fun h=>casesT_step (l:=l) (i:=i) h
 have hlast:=fun h=>casesT_last (l:=l) (i:=i) h
 rcases hx:l.getD i cs0 with ⟨⟨op,n,rel,val,r,s,ar⟩,nums⟩
 rw [hx] at hcell hstep hlast
 simp only [] at hstep hlast
 have hnm:(nums.map i64).length=nums.length:=List.length_map ..
 have hnums:numsB nums=true:=by
  rcases Nat.lt_or_ge (i+1) l.length with h3 | h3
  ·rw [hstep h3] at i2
   simp only [Bool.and_eq_true] at i2
   exact i2.1.1
  ·rw [hlast (by omega)] at i2
   simp only [Bool.and_eq_true] at i2
   exact i2.1
 obtain⟨_,_,hwt⟩:=nums_facts hnums
 refine⟨_,⟨by omega,(⟨.mk op n rel val r s ar,nums⟩:Cs).cells,hcell,rfl⟩,?_⟩
 refine⟨((l.length - 1:Nat):Int),by show _=IntKind.i64.wrap (((l.map Cs.cells).length:Int) - 1);rw [hm,show(l.length:Int) - 1=((l.length - 1:Nat):Int) by omega];exact wrap_i64 (by omega) (by omega),?_⟩
 (first | refine brLt (fun m4=>?_) (fun m4=>?_) | refine brLe (fun m4=>?_) (fun m4=>?_) | refine brEq (fun m4=>?_) (fun m4=>?_))
 ·have m4:(i:Int)=((l.length - 1:Nat):Int):=m4
  have hR:=casesTx_last (by omega) hx
  rw [hR] at i3
  obtain⟨F,hF⟩:∃ F,((P++[tElse])++[tCol])++numsT (nums.drop 0)=F:=⟨_,rfl⟩
  have hFG:F++[tRC]=G:=by rw [← hF,← i3];simp
  have hFw:st.sz+wt F≤100000000:=by rw [← hFG,wt_app] at hb0;omega
  have hb:st.sz+wt ((P++[tElse])++[tCol])≤100000000:=by rw [← hF,wt_app] at hFw;omega
  refine(put_h true (puts st (P)) ([tElse]) (by simp) (by have hz:=puts_sz (P) st;simp only [wt_app,wt] at hb hz ⊢;omega)).holds.useT [] [(1,2),(2,4)] rfl (sk) (sk) fun e0 H0 hq=>?_
  rw [← puts_app] at hq
  obtain⟨rfl,rfl⟩:=hq
  refine⟨rfl,_,⟨6,((5,bO (puts st (P++[tElse])).s)::(0,wO 5 (puts st (P++[tElse])))::[(3,cseO ⟨.mk op n rel val r s ar,nums⟩)])⟩,rfl,rfl,?_⟩
  refine(put_h true (puts st (P++[tElse])) ([tCol]) (by simp) (by have hz:=puts_sz (P++[tElse]) st;simp only [wt_app,wt] at hb hz ⊢;omega)).holds.useT [] [(1,5),(2,6)] rfl (sk) (sk) fun e0 H0 hq=>?_
  rw [← puts_app] at hq
  obtain⟨rfl,rfl⟩:=hq
  refine⟨rfl,_,⟨8,((7,bO (puts st (P++[tElse]++[tCol])).s)::(0,wO 7 (puts st (P++[tElse]++[tCol])))::[(3,cseO ⟨.mk op n rel val r s ar,nums⟩)])⟩,rfl,rfl,?_⟩
  refine⟨Toks × Nat,fun y=>[(0, .ptr 0 0 0),(1, .p (css l)),(6,vB true),(12, .p (css l)),(13, .p (i64 (l.map Cs.cells).length)),(14, .p (i64 i)),(36, .p (ints nums)),(37, .p (i64 (nums.map i64).length)),(38, .p (i64 y.2))],fun y=>wH' (puts st y.1),fun y=>y.2≤nums.length∧y.1++numsT (nums.drop y.2)=F,fun y=>nums.length - y.2,?_,?_⟩
  ·exact⟨(((P++[tElse])++[tCol]),0),⟨Nat.zero_le _,hF⟩,ent_of [] [(2,7)] [] rfl (sk) (sk) rfl⟩
  clear hb
  rintro⟨Q,k⟩ ⟨k1,k2⟩
  simp only [] at k1 k2
  (first | refine brLt (fun m1=>?_) (fun m1=>?_) | refine brLe (fun m1=>?_) (fun m1=>?_) | refine brEq (fun m1=>?_) (fun m1=>?_))
  ·have m1:(k:Int)<((nums.map i64).length:Nat):=m1
   rw [hnm] at m1
   have hk:k<nums.length:=by omega
   have hw:=hwt _ (getD_memL 0 hk)
   have hcell2:=icell hk
   have hd:=dropIs hk
   generalize nums.getD k 0=x at hw hcell2 hd
   have e2:numsT (nums.drop k)=intT x++numsT (nums.drop (k+1)):=by rw [hd];rfl
   rw [e2,← List.append_assoc] at k2
   have hb:st.sz+wt (Q++intT x)≤100000000:=by rw [← k2,wt_app] at hFw;omega
   simp only [wgtB,Bool.and_eq_true,decide_eq_true_eq] at hw
   refine⟨_,⟨by omega,i64 x,hcell2,rfl⟩,?_⟩
   by_cases c:x<0
   ·have e3:intT x=[tMinus]++[digT (-x)]:=if_pos c
    rw [e3,← List.append_assoc] at k2 hb
    refine And.intro (fun _=>?_) (fun h=>absurd c h)
    refine(put_h true (puts st (Q)) ([tMinus]) (by simp) (by have hz:=puts_sz (Q) st;simp only [wt_app,wt] at hb hz ⊢;omega)).holds.useT [] [(1,2),(2,3)] rfl (sk) (sk) fun e0 H0 hq=>?_
    rw [← puts_app] at hq
    obtain⟨rfl,rfl⟩:=hq
    refine⟨rfl,_,⟨5,((4,bO (puts st (Q++[tMinus])).s)::(0,wO 4 (puts st (Q++[tMinus])))::[])⟩,rfl,rfl,?_⟩
    refine⟨-x,by rw [Int.zero_sub];exact wrap_i64 (by omega) (by omega),?_⟩
    refine(itoa_c (-x) (by simp only [natB,Bool.and_eq_true,decide_eq_true_eq];omega)).eq rfl ?_
    refine(put_h true (puts st (Q++[tMinus])) ([digT (-x)]) (by simp) (by have hz:=puts_sz (Q++[tMinus]) st;simp only [wt_app,wt] at hb hz ⊢;omega)).holds.useT [] [(1,4),(2,5)] rfl (sk) (sk) fun e0 H0 hq=>?_
    rw [← puts_app] at hq
    obtain⟨rfl,rfl⟩:=hq
    refine⟨rfl,_,⟨7,((6,bO (puts st (Q++[tMinus]++[digT (-x)])).s)::(0,wO 6 (puts st (Q++[tMinus]++[digT (-x)])))::[])⟩,rfl,rfl,?_⟩
    refine⟨_,wrap_i64 (by omega) (by omega),?_⟩
    exact⟨((Q++[tMinus])++[digT (-x)],k+1),⟨hk,k2⟩,ent_of [] [(2,6)] [] rfl (sk) (sk) rfl,by show nums.length - (k+1)<nums.length - k;omega⟩
   ·have e3:intT x=[digT x]:=if_neg c
    rw [e3] at k2 hb
    refine And.intro (fun h=>absurd h c) (fun _=>?_)
    refine(itoa_c x (by simp only [natB,Bool.and_eq_true,decide_eq_true_eq];omega)).eq rfl ?_
    refine(put_h true (puts st (Q)) ([digT x]) (by simp) (by have hz:=puts_sz (Q) st;simp only [wt_app,wt] at hb hz ⊢;omega)).holds.useT [] [(1,2),(2,3)] rfl (sk) (sk) fun e0 H0 hq=>?_
    rw [← puts_app] at hq
    obtain⟨rfl,rfl⟩:=hq
    refine⟨rfl,_,⟨5,((4,bO (puts st (Q++[digT x])).s)::(0,wO 4 (puts st (Q++[digT x])))::[])⟩,rfl,rfl,?_⟩
    refine⟨_,wrap_i64 (by omega) (by omega),?_⟩
    exact⟨(Q++[digT x],k+1),⟨hk,k2⟩,ent_of [] [(2,4)] [] rfl (sk) (sk) rfl,by show nums.length - (k+1)<nums.length - k;omega⟩
  have m1:¬ (k:Int)<((nums.map i64).length:Nat):=m1
  rw [hnm] at m1
  rw [List.drop_eq_nil_of_le (by omega),show numsT []=[] from rfl,List.append_nil] at k2
  subst k2
  refine⟨_,wrap_i64 (by omega) (by omega),?_⟩
  exact⟨(Q,i+1),⟨by omega,by rw [List.drop_eq_nil_of_le (by omega)];rfl,by rw [List.drop_eq_nil_of_le (by omega)];exact hFG⟩,ent_of [] [] [] rfl (sk) (sk) rfl,by show l.length - (i+1)<l.length - i;omega⟩
 have m4:¬ (i:Int)=((l.length - 1:Nat):Int):=m4
 have hR:=casesTx_step (by omega) hx
 rw [hR] at i3
 rw [hstep (by omega)] at i2
 simp only [Bool.and_eq_true] at i2
 obtain⟨⟨_,i4⟩,i5⟩:=i2
 obtain⟨kk,hk8⟩:=Option.isSome_iff_exists.1 i4
 obtain⟨F,hF⟩:∃ F,((P++condT (.mk op n rel val r s ar))++[tCol])++numsT (nums.drop 0)=F:=⟨_,rfl⟩
 have hFG:(F++[tSemi])++(casesTx (l.drop (i+1))++[tRC])=G:=by rw [← hF,← i3];simp
 have hFs:st.sz+wt (F++[tSemi])≤100000000:=by rw [← hFG,wt_app] at hb0;omega
 have hFw:st.sz+wt F≤100000000:=by rw [wt_app] at hFs;omega
 have hb:st.sz+wt ((P++condT (.mk op n rel val r s ar))++[tCol])≤100000000:=by rw [← hF,wt_app] at hFw;omega
 have hC:=cond_w0 kk hk8 (puts st P) (by have hz:=puts_sz P st;simp only [wt_app,wt] at hb ⊢;omega)
 generalize condT (.mk op n rel val r s ar)=X at hC hF hb
 refine(hC).holds.useT [] [(1,2)] rfl (sk) (sk) fun e0 H0 hq=>?_
 unfold WQ at hq
 rw [← puts_app] at hq
 obtain⟨rfl,rfl⟩:=hq
 refine⟨rfl,_,⟨5,((4,bO (puts st (P++X)).s)::(0,wO 4 (puts st (P++X)))::[(3,cseO ⟨.mk op n rel val r s ar,nums⟩)])⟩,rfl,rfl,?_⟩
 refine(put_h true (puts st (P++X)) ([tCol]) (by simp) (by have hz:=puts_sz (P++X) st;simp only [wt_app,wt] at hb hz ⊢;omega)).holds.useT [] [(1,4),(2,5)] rfl (sk) (sk) fun e0 H0 hq=>?_
 rw [← puts_app] at hq
 obtain⟨rfl,rfl⟩:=hq
 refine⟨rfl,_,⟨7,((6,bO (puts st (P++X++[tCol])).s)::(0,wO 6 (puts st (P++X++[tCol])))::[(3,cseO ⟨.mk op n rel val r s ar,nums⟩)])⟩,rfl,rfl,?_⟩
 refine⟨Toks × Nat,fun y=>[(0, .ptr 0 0 0),(1, .p (css l)),(6,vB false),(12, .p (css l)),(13, .p (i64 (l.map Cs.cells).length)),(14, .p (i64 i)),(36, .p (ints nums)),(37, .p (i64 (nums.map i64).length)),(38, .p (i64 y.2))],fun y=>wH' (puts st y.1),fun y=>y.2≤nums.length∧y.1++numsT (nums.drop y.2)=F,fun y=>nums.length - y.2,?_,?_⟩
 ·exact⟨(((P++X)++[tCol]),0),⟨Nat.zero_le _,hF⟩,ent_of [] [(2,6)] [] rfl (sk) (sk) rfl⟩
 clear hb
 rintro⟨Q,k⟩ ⟨k1,k2⟩
 simp only [] at k1 k2
 (first | refine brLt (fun m1=>?_) (fun m1=>?_) | refine brLe (fun m1=>?_) (fun m1=>?_) | refine brEq (fun m1=>?_) (fun m1=>?_))
 ·have m1:(k:Int)<((nums.map i64).length:Nat):=m1
  rw [hnm] at m1
  have hk:k<nums.length:=by omega
  have hw:=hwt _ (getD_memL 0 hk)
  have hcell2:=icell hk
  have hd:=dropIs hk
  generalize nums.getD k 0=x at hw hcell2 hd
  have e2:numsT (nums.drop k)=intT x++numsT (nums.drop (k+1)):=by rw [hd];rfl
  rw [e2,← List.append_assoc] at k2
  have hb:st.sz+wt (Q++intT x)≤100000000:=by rw [← k2,wt_app] at hFw;omega
  simp only [wgtB,Bool.and_eq_true,decide_eq_true_eq] at hw
  refine⟨_,⟨by omega,i64 x,hcell2,rfl⟩,?_⟩
  by_cases c:x<0
  ·have e3:intT x=[tMinus]++[digT (-x)]:=if_pos c
   rw [e3,← List.append_assoc] at k2 hb
   refine And.intro (fun _=>?_) (fun h=>absurd c h)
   refine(put_h true (puts st (Q)) ([tMinus]) (by simp) (by have hz:=puts_sz (Q) st;simp only [wt_app,wt] at hb hz ⊢;omega)).holds.useT [] [(1,2),(2,3)] rfl (sk) (sk) fun e0 H0 hq=>?_
   rw [← puts_app] at hq
   obtain⟨rfl,rfl⟩:=hq
   refine⟨rfl,_,⟨5,((4,bO (puts st (Q++[tMinus])).s)::(0,wO 4 (puts st (Q++[tMinus])))::[])⟩,rfl,rfl,?_⟩
   refine⟨-x,by rw [Int.zero_sub];exact wrap_i64 (by omega) (by omega),?_⟩
   refine(itoa_c (-x) (by simp only [natB,Bool.and_eq_true,decide_eq_true_eq];omega)).eq rfl ?_
   refine(put_h true (puts st (Q++[tMinus])) ([digT (-x)]) (by simp) (by have hz:=puts_sz (Q++[tMinus]) st;simp only [wt_app,wt] at hb hz ⊢;omega)).holds.useT [] [(1,4),(2,5)] rfl (sk) (sk) fun e0 H0 hq=>?_
   rw [← puts_app] at hq
   obtain⟨rfl,rfl⟩:=hq
   refine⟨rfl,_,⟨7,((6,bO (puts st (Q++[tMinus]++[digT (-x)])).s)::(0,wO 6 (puts st (Q++[tMinus]++[digT (-x)])))::[])⟩,rfl,rfl,?_⟩
   refine⟨_,wrap_i64 (by omega) (by omega),?_⟩
   exact⟨((Q++[tMinus])++[digT (-x)],k+1),⟨hk,k2⟩,ent_of [] [(2,6)] [] rfl (sk) (sk) rfl,by show nums.length - (k+1)<nums.length - k;omega⟩
  ·have e3:intT x=[digT x]:=if_neg c
   rw [e3] at k2 hb
   refine And.intro (fun h=>absurd h c) (fun _=>?_)
   refine(itoa_c x (by simp only [natB,Bool.and_eq_true,decide_eq_true_eq];omega)).eq rfl ?_
   refine(put_h true (puts st (Q)) ([digT x]) (by simp) (by have hz:=puts_sz (Q) st;simp only [wt_app,wt] at hb hz ⊢;omega)).holds.useT [] [(1,2),(2,3)] rfl (sk) (sk) fun e0 H0 hq=>?_
   rw [← puts_app] at hq
   obtain⟨rfl,rfl⟩:=hq
   refine⟨rfl,_,⟨5,((4,bO (puts st (Q++[digT x])).s)::(0,wO 4 (puts st (Q++[digT x])))::[])⟩,rfl,rfl,?_⟩
   refine⟨_,wrap_i64 (by omega) (by omega),?_⟩
   exact⟨(Q++[digT x],k+1),⟨hk,k2⟩,ent_of [] [(2,4)] [] rfl (sk) (sk) rfl,by show nums.length - (k+1)<nums.length - k;omega⟩
 have m1:¬ (k:Int)<((nums.map i64).length:Nat):=m1
 rw [hnm] at m1
 rw [List.drop_eq_nil_of_le (by omega),show numsT []=[] from rfl,List.append_nil] at k2
 subst k2
 have hb:=hFs
 refine(put_h true (puts st (Q)) ([tSemi]) (by simp) (by have hz:=puts_sz (Q) st;simp only [wt_app,wt] at hb hz ⊢;omega)).holds.useT [] [(1,2),(2,3)] rfl (sk) (sk) fun e0 H0 hq=>?_
 rw [← puts_app] at hq
 obtain⟨rfl,rfl⟩:=hq
 refine⟨rfl,_,⟨5,((4,bO (puts st (Q++[tSemi])).s)::(0,wO 4 (puts st (Q++[tSemi])))::[])⟩,rfl,rfl,?_⟩
 refine⟨_,wrap_i64 (by omega) (by omega),?_⟩
 exact⟨(Q++[tSemi],i+1),⟨by omega,i5,hFG⟩,ent_of [] [(2,4)] [] rfl (sk) (sk) rfl,by show l.length - (i+1)<l.length - i;omega⟩
theorem lineT_len {d:De} (hv:declB d=true):(lineT d).length≤200000:=by
 have:=decl_toks hv
 have h2:=spW_len false this.1
 rw [lineT,List.length_append]
 have h3:=this.2
 simp only [List.length_cons,List.length_nil]
 omega
theorem textT_cons (d:De) (ds:List De):textT (d::ds)=lineT d++textT ds:=rfl
theorem textT_len:∀ {ds:List De},(∀ d∈ds,declB d=true)→(textT ds).length≤200000 * ds.length
 | [],_=>by simp [textT]
 | d::ds,h=>by
  have h1:=lineT_len (h d (List.mem_cons_self ..))
  have h2:=textT_len (ds:=ds) fun x hx=>h x (List.mem_cons_of_mem _ hx)
  rw [textT_cons,List.length_append,List.length_cons,Nat.mul_succ]
  omega
end Go.Proofs.YtohfoaplnjcihaaGreatDoor
