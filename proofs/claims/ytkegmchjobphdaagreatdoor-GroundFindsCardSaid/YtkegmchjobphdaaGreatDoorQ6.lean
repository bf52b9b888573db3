/- Part 6 of the proof: Wi Wj Ik Nva Gb Gc Gd Gf Gg Gh Ge Gi Ej Ea Eb Ec Ed Ex Ef Eg -/
import Derived.Test.YtkegmchjobphdaaGreatDoorQ5
namespace Go.Proofs.YtkegmchjobphdaaGreatDoor
open Go Y
set_option maxRecDepth 100000
set_option maxHeartbeats 40000000
structure WI (W P:Nat):Prop where
 eq:W≤1024→W=P
 big:1024<W→1024<P
 hi:W≤4096
abbrev otBi11:OT:=(.pure 0 (.pure 1 (.pure 2 (.pure 3 (.pure 4 (.pure 5 (.eff 6 [] (.pure 7 .fin) .nil)))))))
theorem rbig_c (ds:List De) (hlen:ds.length≤30) (hok:∀ d∈ds,OkD d) {g:Int} (hno:eachI g [] ds=[]):Pure cx 90 [srcV ds] (·=.ret [.bool (bigI ds)]):=by
 have hm:(ds.map De.cells).length=ds.length:=List.length_map ..
 refine pure_of_vc Tryz.func90 rfl rfl rfl ?_
 refine⟨Nat × Nat,fun x=>[(1, .ptr 0 0 0),(3, .p (i64 (nodesI [] (ds.take x.1):Nat))),(4, .p (i64 (gainsI (ds.take x.1):Nat))),(5, .p (i64 (x.2:Nat))),(6, .p (i64 x.1))],fun _=>⟨1,[(0,scO ds)]⟩,fun x=>x.1≤ds.length∧nodesI [] (ds.take x.1)≤6 * x.1∧WI x.2 (worldsI [] (ds.take x.1)),fun x=>ds.length - x.1,?_,?_⟩
 ·exact⟨(0,1),⟨Nat.zero_le _,Nat.zero_le _,⟨fun _=>rfl,fun h=>absurd h (by decide),by decide⟩⟩,ent_of [] [] [] rfl (sk) (sk) rfl⟩
 rintro⟨k,W⟩ ⟨k1,k2,k3⟩
 simp only [] at k1 k2 k3
 have hW4:=k3.hi
 (first | refine brLt (fun m1=>?_) (fun m1=>?_) | refine brLe (fun m1=>?_) (fun m1=>?_) | refine brEq (fun m1=>?_) (fun m1=>?_))
 rotate_left
 ·have m1:¬ (k:Int)<((ds.map De.cells).length:Nat):=m1
  rw [hm] at m1
  obtain⟨B,hB⟩:∃ B,B=bigI ds:=⟨_,rfl⟩
  rw [← hB]
  have et:ds.take k=ds:=take_all (by omega)
  have e1:=k3.eq
  have e2:=k3.big
  rw [et] at e1 e2
  rw [bigI] at hB
  (first | refine brLt (fun b0=>?_) (fun b0=>?_) | refine brLe (fun b0=>?_) (fun b0=>?_) | refine brEq (fun b0=>?_) (fun b0=>?_))
  ·have b0:((nodesI [] (ds.take k):Nat):Int)<1:=b0
   rw [et] at b0
   rw [decide_eq_true (show nodesI [] ds<1 by omega),Bool.true_or] at hB
   exact end1 _ rfl rfl (retB hB.symm)
  have b0:¬ ((nodesI [] (ds.take k):Nat):Int)<1:=b0
  rw [et] at b0
  rw [decide_eq_false (show ¬ nodesI [] ds<1 by omega),Bool.false_or] at hB
  (first | refine brLt (fun b1=>?_) (fun b1=>?_) | refine brLe (fun b1=>?_) (fun b1=>?_) | refine brEq (fun b1=>?_) (fun b1=>?_))
  ·have b1:(8:Int)<((nodesI [] (ds.take k):Nat):Int):=b1
   rw [et] at b1
   rw [decide_eq_true (show 8<nodesI [] ds by omega),Bool.true_or] at hB
   exact end1 _ rfl rfl (retB hB.symm)
  have b1:¬ (8:Int)<((nodesI [] (ds.take k):Nat):Int):=b1
  rw [et] at b1
  rw [decide_eq_false (show ¬ 8<nodesI [] ds by omega),Bool.false_or] at hB
  (first | refine brLt (fun b2=>?_) (fun b2=>?_) | refine brLe (fun b2=>?_) (fun b2=>?_) | refine brEq (fun b2=>?_) (fun b2=>?_))
  ·have b2:(4:Int)<((gainsI (ds.take k):Nat):Int):=b2
   rw [et] at b2
   rw [decide_eq_true (show 4<gainsI ds by omega),Bool.true_or] at hB
   exact end1 _ rfl rfl (retB hB.symm)
  have b2:¬ (4:Int)<((gainsI (ds.take k):Nat):Int):=b2
  rw [et] at b2
  rw [decide_eq_false (show ¬ 4<gainsI ds by omega),Bool.false_or] at hB
  (first | refine brLt (fun b3=>?_) (fun b3=>?_) | refine brLe (fun b3=>?_) (fun b3=>?_) | refine brEq (fun b3=>?_) (fun b3=>?_))
  ·have b3:(1024:Int)<((W:Nat):Int):=b3
   have:=e2 (by omega)
   rw [decide_eq_true this] at hB
   exact end1 _ rfl rfl (retB hB.symm)
  ·have b3:¬ (1024:Int)<((W:Nat):Int):=b3
   have:=e1 (by omega)
   rw [decide_eq_false (show ¬ 1024<worldsI [] ds by omega)] at hB
   exact end1 _ rfl rfl (retB hB.symm)
 have m1:(k:Int)<((ds.map De.cells).length:Nat):=m1
 rw [hm] at m1
 have hk:k<ds.length:=by omega
 have hcell:=decell hk
 have h1:=eachI_at ds [] hno k hk
 rw [List.nil_append] at h1
 have hcard:=fun h=>oneI_card (d:=ds.getD k de0) h1 h
 obtain⟨sN,sW,sG⟩:=count_step hk
 have hgl:gainsI (ds.take k)≤30:=by rw [gainsI];have:=List.length_filter_le (fun d:De=>decide (d.kind=5)) (ds.take k);rw [List.length_take] at this;omega
 have hspos:=fun h3 hp=>size_pos hno hk h3 hp
 have hSz:=fun (p:List UInt8) (hp:p ≠ [])=>rsize_c (ds.take k) hp (by rw [List.length_take];omega) fun d hd=>hok d (List.mem_of_mem_take hd)
 generalize ds.getD k de0=d at hcell hcard sN sW sG hspos
 obtain⟨dk,dn,dnm,dpl,drs,dcs⟩:=d
 simp only [memI] at sN sW sG hcard hspos
 refine⟨_,⟨by omega,(De.mk dk dn dnm dpl drs dcs).cells,hcell,rfl⟩,?_⟩
 (first | refine brLt (fun q3=>?_) (fun q3=>?_) | refine brLe (fun q3=>?_) (fun q3=>?_) | refine brEq (fun q3=>?_) (fun q3=>?_))
 ·have q3:dk=3:=q3
  rw [if_pos q3] at sN sW
  rw [if_neg (by omega)] at sG
  have hG:gainsI (ds.take (k+1))=gainsI (ds.take k):=sG
  refine And.intro (fun hp=>?_) (fun hp=>?_)
  ·have hp:dpl=[]:=hp
   rw [if_pos hp] at sN sW
   have hN:=sN
   have hq:1≤1→2≤dn∧dn≤4:=fun _=>hcard (.inl q3)
   refine⟨((nodesI [] (ds.take k)+1:Nat):Int),by rw [Int.natCast_add];exact wrap_i64 (by omega) (by omega),?_⟩
   refine⟨Nat × Nat,fun y=>[(1, .ptr 0 0 0),(3, .p (i64 (nodesI [] (ds.take k)+1:Nat))),(4, .p (i64 (gainsI (ds.take k):Nat))),(5, .p (i64 (y.2:Nat))),(6, .p (i64 k)),(7, .ptr 1 0 0),(8, .p (i64 (1:Nat))),(9, .p (i64 y.1))],fun _=>⟨2,[(1,dcO ⟨dk,dn,dnm,dpl,drs,dcs⟩),(0,scO ds)]⟩,fun y=>y.1≤1∧WI y.2 (worldsI [] (ds.take k) * dn.toNat ^ y.1),fun y=>1 - y.1,?_,?_⟩
   ·exact⟨(0,W),⟨Nat.zero_le _,by show WI W (_ * _ ^ 0);rw [Nat.pow_zero,Nat.mul_one];exact k3⟩,ent_of [] [] [] rfl (sk) (sk) rfl⟩
   rintro⟨j,V⟩ ⟨j1,j2⟩
   simp only [] at j1 j2
   have hV4:=j2.hi
   (first | refine brLt (fun n1=>?_) (fun n1=>?_) | refine brLe (fun n1=>?_) (fun n1=>?_) | refine brEq (fun n1=>?_) (fun n1=>?_))
   rotate_left
   ·have n1:¬ (j:Int)<(1:Nat):=n1
    have hjm:j=1:=by omega
    have hV:WI V (worldsI [] (ds.take (k+1))):=by rw [sW,← hjm];exact j2
    refine⟨_,wrap_i64 (by omega) (by omega),?_⟩
    exact⟨(k+1,V),⟨by show k+1≤ds.length;omega,by show nodesI [] (ds.take (k+1))≤6 * (k+1);omega,hV⟩,ent_of [] [] [] rfl ⟨⟨rfl,rfl⟩,congrArg (fun z:Nat=>i64 z) hN,congrArg (fun z:Nat=>i64 z) hG,rfl,rfl,trivial⟩ (sk) rfl,by show ds.length - (k+1)<ds.length - k;omega⟩
   have n1:(j:Int)<(1:Nat):=n1
   have hd:=hq (by omega)
   (first | refine brLt (fun n2=>?_) (fun n2=>?_) | refine brLe (fun n2=>?_) (fun n2=>?_) | refine brEq (fun n2=>?_) (fun n2=>?_))
   ·have n2:((V:Nat):Int)≤1024:=n2
    have hVe:=j2.eq (by omega)
    have hmul:((V:Nat):Int) * dn=((V * dn.toNat:Nat):Int):=by rw [Int.natCast_mul,show((dn.toNat:Nat):Int)=dn by omega]
    have hle:V * dn.toNat≤1024 * 4:=Nat.mul_le_mul (by omega) (by omega)
    refine⟨((V * dn.toNat:Nat):Int),by rw [← hmul];exact wrap_i64 (by omega) (by omega),?_⟩
    refine⟨_,wrap_i64 (by omega) (by omega),?_⟩
    exact⟨(j+1,V * dn.toNat),⟨by show j+1≤1;omega,by show WI (V * dn.toNat) (_ * dn.toNat ^ (j+1));rw [Nat.pow_succ,← Nat.mul_assoc,← hVe];exact⟨fun _=>rfl,fun h=>h,hle⟩⟩,ent_of [] [] [] rfl (sk) (sk) rfl,by show 1 - (j+1)<1 - j;omega⟩
   ·have n2:¬ ((V:Nat):Int)≤1024:=n2
    have hVb:=j2.big (by omega)
    have hV:WI V (worldsI [] (ds.take (k+1))):=by
     refine⟨fun h=>by omega,fun _=>?_,hV4⟩
     rw [sW]
     exact Nat.lt_of_lt_of_le hVb (Nat.mul_le_mul_left _ (Nat.pow_le_pow_right (by omega) j1))
    refine⟨_,wrap_i64 (by omega) (by omega),?_⟩
    exact⟨(k+1,V),⟨by show k+1≤ds.length;omega,by show nodesI [] (ds.take (k+1))≤6 * (k+1);omega,hV⟩,ent_of [] [] [] rfl ⟨⟨rfl,rfl⟩,congrArg (fun z:Nat=>i64 z) hN,congrArg (fun z:Nat=>i64 z) hG,rfl,rfl,trivial⟩ (sk) rfl,by show ds.length - (k+1)<ds.length - k;omega⟩
  ·have hp:¬ dpl=[]:=hp
   rw [if_neg hp] at sN sW
   have hs:=hspos q3 hp
   have hS:=hSz dpl hp
   obtain⟨m,hme⟩:∃ m:Nat,sizeV (ds.take k) dpl=(m:Nat):=⟨(sizeV (ds.take k) dpl).toNat,by omega⟩
   rw [hme] at hS
   rw [hme,Int.toNat_natCast] at sN sW
   have hN:=sN
   have hq:1≤m→2≤dn∧dn≤4:=fun _=>hcard (.inl q3)
   have hm6:m≤6:=by omega
   have ea:[des (ds.take k),PV.str dpl]=[PV.lsts 6 ((ds.map De.cells).take ((k:Nat):Int).toNat), .str dpl]:=by show [PV.lsts 6 ((ds.take k).map De.cells),_]=_;rw [List.map_take];rfl
   rw [ea] at hS
   refine vdraw_ot otBi11 (by kernel_rfl) ?_
   refine⟨by show(0:Int)≤(k:Nat)∧((k:Nat):Int)≤((ds.map De.cells).length:Nat);rw [hm];omega,?_⟩
   refine hS.eq rfl ?_
   refine⟨((nodesI [] (ds.take k)+m:Nat):Int),by rw [Int.natCast_add];exact wrap_i64 (by omega) (by omega),?_⟩
   refine⟨Nat × Nat,fun y=>[(1, .ptr 0 0 0),(3, .p (i64 (nodesI [] (ds.take k)+m:Nat))),(4, .p (i64 (gainsI (ds.take k):Nat))),(5, .p (i64 (y.2:Nat))),(6, .p (i64 k)),(7, .ptr 1 0 0),(8, .p (i64 (m:Nat))),(9, .p (i64 y.1))],fun _=>⟨2,[(1,dcO ⟨dk,dn,dnm,dpl,drs,dcs⟩),(0,scO ds)]⟩,fun y=>y.1≤m∧WI y.2 (worldsI [] (ds.take k) * dn.toNat ^ y.1),fun y=>m - y.1,?_,?_⟩
   ·exact⟨(0,W),⟨Nat.zero_le _,by show WI W (_ * _ ^ 0);rw [Nat.pow_zero,Nat.mul_one];exact k3⟩,ent_of [] [] [] rfl (sk) (sk) rfl⟩
   rintro⟨j,V⟩ ⟨j1,j2⟩
   simp only [] at j1 j2
   have hV4:=j2.hi
   (first | refine brLt (fun n1=>?_) (fun n1=>?_) | refine brLe (fun n1=>?_) (fun n1=>?_) | refine brEq (fun n1=>?_) (fun n1=>?_))
   rotate_left
   ·have n1:¬ (j:Int)<(m:Nat):=n1
    have hjm:j=m:=by omega
    have hV:WI V (worldsI [] (ds.take (k+1))):=by rw [sW,← hjm];exact j2
    refine⟨_,wrap_i64 (by omega) (by omega),?_⟩
    exact⟨(k+1,V),⟨by show k+1≤ds.length;omega,by show nodesI [] (ds.take (k+1))≤6 * (k+1);omega,hV⟩,ent_of [] [] [] rfl ⟨⟨rfl,rfl⟩,congrArg (fun z:Nat=>i64 z) hN,congrArg (fun z:Nat=>i64 z) hG,rfl,rfl,trivial⟩ (sk) rfl,by show ds.length - (k+1)<ds.length - k;omega⟩
   have n1:(j:Int)<(m:Nat):=n1
   have hd:=hq (by omega)
   (first | refine brLt (fun n2=>?_) (fun n2=>?_) | refine brLe (fun n2=>?_) (fun n2=>?_) | refine brEq (fun n2=>?_) (fun n2=>?_))
   ·have n2:((V:Nat):Int)≤1024:=n2
    have hVe:=j2.eq (by omega)
    have hmul:((V:Nat):Int) * dn=((V * dn.toNat:Nat):Int):=by rw [Int.natCast_mul,show((dn.toNat:Nat):Int)=dn by omega]
    have hle:V * dn.toNat≤1024 * 4:=Nat.mul_le_mul (by omega) (by omega)
    refine⟨((V * dn.toNat:Nat):Int),by rw [← hmul];exact wrap_i64 (by omega) (by omega),?_⟩
    refine⟨_,wrap_i64 (by omega) (by omega),?_⟩
    exact⟨(j+1,V * dn.toNat),⟨by show j+1≤m;omega,by show WI (V * dn.toNat) (_ * dn.toNat ^ (j+1));rw [Nat.pow_succ,← Nat.mul_assoc,← hVe];exact⟨fun _=>rfl,fun h=>h,hle⟩⟩,ent_of [] [] [] rfl (sk) (sk) rfl,by show m - (j+1)<m - j;omega⟩
   ·have n2:¬ ((V:Nat):Int)≤1024:=n2
    have hVb:=j2.big (by omega)
    have hV:WI V (worldsI [] (ds.take (k+1))):=by
     refine⟨fun h=>by omega,fun _=>?_,hV4⟩
     rw [sW]
     exact Nat.lt_of_lt_of_le hVb (Nat.mul_le_mul_left _ (Nat.pow_le_pow_right (by omega) j1))
    refine⟨_,wrap_i64 (by omega) (by omega),?_⟩
    exact⟨(k+1,V),⟨by show k+1≤ds.length;omega,by show nodesI [] (ds.take (k+1))≤6 * (k+1);omega,hV⟩,ent_of [] [] [] rfl ⟨⟨rfl,rfl⟩,congrArg (fun z:Nat=>i64 z) hN,congrArg (fun z:Nat=>i64 z) hG,rfl,rfl,trivial⟩ (sk) rfl,by show ds.length - (k+1)<ds.length - k;omega⟩
 have q3:¬ dk=3:=q3
 rw [if_neg q3] at sN sW
 (first | refine brLt (fun q4=>?_) (fun q4=>?_) | refine brLe (fun q4=>?_) (fun q4=>?_) | refine brEq (fun q4=>?_) (fun q4=>?_))
 ·have q4:dk=4:=q4
  rw [if_pos q4] at sN sW
  rw [if_neg (by omega)] at sG
  have hG:gainsI (ds.take (k+1))=gainsI (ds.take k):=sG
  have hN:=sN
  have hq:1≤1→2≤dn∧dn≤4:=fun _=>hcard (.inr q4)
  refine⟨((nodesI [] (ds.take k)+1:Nat):Int),by rw [Int.natCast_add];exact wrap_i64 (by omega) (by omega),?_⟩
  refine⟨Nat × Nat,fun y=>[(1, .ptr 0 0 0),(3, .p (i64 (nodesI [] (ds.take k)+1:Nat))),(4, .p (i64 (gainsI (ds.take k):Nat))),(5, .p (i64 (y.2:Nat))),(6, .p (i64 k)),(7, .ptr 1 0 0),(8, .p (i64 (1:Nat))),(9, .p (i64 y.1))],fun _=>⟨2,[(1,dcO ⟨dk,dn,dnm,dpl,drs,dcs⟩),(0,scO ds)]⟩,fun y=>y.1≤1∧WI y.2 (worldsI [] (ds.take k) * dn.toNat ^ y.1),fun y=>1 - y.1,?_,?_⟩
  ·exact⟨(0,W),⟨Nat.zero_le _,by show WI W (_ * _ ^ 0);rw [Nat.pow_zero,Nat.mul_one];exact k3⟩,ent_of [] [] [] rfl (sk) (sk) rfl⟩
  rintro⟨j,V⟩ ⟨j1,j2⟩
  simp only [] at j1 j2
  have hV4:=j2.hi
  (first | refine brLt (fun n1=>?_) (fun n1=>?_) | refine brLe (fun n1=>?_) (fun n1=>?_) | refine brEq (fun n1=>?_) (fun n1=>?_))
  rotate_left
  ·have n1:¬ (j:Int)<(1:Nat):=n1
   have hjm:j=1:=by omega
   have hV:WI V (worldsI [] (ds.take (k+1))):=by rw [sW,← hjm];exact j2
   refine⟨_,wrap_i64 (by omega) (by omega),?_⟩
   exact⟨(k+1,V),⟨by show k+1≤ds.length;omega,by show nodesI [] (ds.take (k+1))≤6 * (k+1);omega,hV⟩,ent_of [] [] [] rfl ⟨⟨rfl,rfl⟩,congrArg (fun z:Nat=>i64 z) hN,congrArg (fun z:Nat=>i64 z) hG,rfl,rfl,trivial⟩ (sk) rfl,by show ds.length - (k+1)<ds.length - k;omega⟩
  have n1:(j:Int)<(1:Nat):=n1
  have hd:=hq (by omega)
  (first | refine brLt (fun n2=>?_) (fun n2=>?_) | refine brLe (fun n2=>?_) (fun n2=>?_) | refine brEq (fun n2=>?_) (fun n2=>?_))
  ·have n2:((V:Nat):Int)≤1024:=n2
   have hVe:=j2.eq (by omega)
   have hmul:((V:Nat):Int) * dn=((V * dn.toNat:Nat):Int):=by rw [Int.natCast_mul,show((dn.toNat:Nat):Int)=dn by omega]
   have hle:V * dn.toNat≤1024 * 4:=Nat.mul_le_mul (by omega) (by omega)
   refine⟨((V * dn.toNat:Nat):Int),by rw [← hmul];exact wrap_i64 (by omega) (by omega),?_⟩
   refine⟨_,wrap_i64 (by omega) (by omega),?_⟩
   exact⟨(j+1,V * dn.toNat),⟨by show j+1≤1;omega,by show WI (V * dn.toNat) (_ * dn.toNat ^ (j+1));rw [Nat.pow_succ,← Nat.mul_assoc,← hVe];exact⟨fun _=>rfl,fun h=>h,hle⟩⟩,ent_of [] [] [] rfl (sk) (sk) rfl,by show 1 - (j+1)<1 - j;omega⟩
  ·have n2:¬ ((V:Nat):Int)≤1024:=n2
   have hVb:=j2.big (by omega)
   have hV:WI V (worldsI [] (ds.take (k+1))):=by
    refine⟨fun h=>by omega,fun _=>?_,hV4⟩
    rw [sW]
    exact Nat.lt_of_lt_of_le hVb (Nat.mul_le_mul_left _ (Nat.pow_le_pow_right (by omega) j1))
   refine⟨_,wrap_i64 (by omega) (by omega),?_⟩
   exact⟨(k+1,V),⟨by show k+1≤ds.length;omega,by show nodesI [] (ds.take (k+1))≤6 * (k+1);omega,hV⟩,ent_of [] [] [] rfl ⟨⟨rfl,rfl⟩,congrArg (fun z:Nat=>i64 z) hN,congrArg (fun z:Nat=>i64 z) hG,rfl,rfl,trivial⟩ (sk) rfl,by show ds.length - (k+1)<ds.length - k;omega⟩
 have q4:¬ dk=4:=q4
 rw [if_neg q4] at sN sW
 have hN:=sN
 have hq:1≤0→2≤dn∧dn≤4:=fun h=>absurd h (by decide)
 (first | refine brLt (fun q5=>?_) (fun q5=>?_) | refine brLe (fun q5=>?_) (fun q5=>?_) | refine brEq (fun q5=>?_) (fun q5=>?_))
 ·have q5:dk=5:=q5
  rw [if_pos q5] at sG
  have hG:=sG
  refine⟨((gainsI (ds.take k)+1:Nat):Int),by rw [Int.natCast_add];exact wrap_i64 (by omega) (by omega),?_⟩
  refine⟨((nodesI [] (ds.take k)+0:Nat):Int),by rw [Int.natCast_add];exact wrap_i64 (by omega) (by omega),?_⟩
  refine⟨Nat × Nat,fun y=>[(1, .ptr 0 0 0),(3, .p (i64 (nodesI [] (ds.take k)+0:Nat))),(4, .p (i64 (gainsI (ds.take k)+1:Nat))),(5, .p (i64 (y.2:Nat))),(6, .p (i64 k)),(7, .ptr 1 0 0),(8, .p (i64 (0:Nat))),(9, .p (i64 y.1))],fun _=>⟨2,[(1,dcO ⟨dk,dn,dnm,dpl,drs,dcs⟩),(0,scO ds)]⟩,fun y=>y.1≤0∧WI y.2 (worldsI [] (ds.take k) * dn.toNat ^ y.1),fun y=>0 - y.1,?_,?_⟩
  ·exact⟨(0,W),⟨Nat.zero_le _,by show WI W (_ * _ ^ 0);rw [Nat.pow_zero,Nat.mul_one];exact k3⟩,ent_of [] [] [] rfl (sk) (sk) rfl⟩
  rintro⟨j,V⟩ ⟨j1,j2⟩
  simp only [] at j1 j2
  have hV4:=j2.hi
  (first | refine brLt (fun n1=>?_) (fun n1=>?_) | refine brLe (fun n1=>?_) (fun n1=>?_) | refine brEq (fun n1=>?_) (fun n1=>?_))
  rotate_left
  ·have n1:¬ (j:Int)<(0:Nat):=n1
   have hjm:j=0:=by omega
   have hV:WI V (worldsI [] (ds.take (k+1))):=by rw [sW,← hjm];exact j2
   refine⟨_,wrap_i64 (by omega) (by omega),?_⟩
   exact⟨(k+1,V),⟨by show k+1≤ds.length;omega,by show nodesI [] (ds.take (k+1))≤6 * (k+1);omega,hV⟩,ent_of [] [] [] rfl ⟨⟨rfl,rfl⟩,congrArg (fun z:Nat=>i64 z) hN,congrArg (fun z:Nat=>i64 z) hG,rfl,rfl,trivial⟩ (sk) rfl,by show ds.length - (k+1)<ds.length - k;omega⟩
  have n1:(j:Int)<(0:Nat):=n1
  have hd:=hq (by omega)
  (first | refine brLt (fun n2=>?_) (fun n2=>?_) | refine brLe (fun n2=>?_) (fun n2=>?_) | refine brEq (fun n2=>?_) (fun n2=>?_))
  ·have n2:((V:Nat):Int)≤1024:=n2
   have hVe:=j2.eq (by omega)
   have hmul:((V:Nat):Int) * dn=((V * dn.toNat:Nat):Int):=by rw [Int.natCast_mul,show((dn.toNat:Nat):Int)=dn by omega]
   have hle:V * dn.toNat≤1024 * 4:=Nat.mul_le_mul (by omega) (by omega)
   refine⟨((V * dn.toNat:Nat):Int),by rw [← hmul];exact wrap_i64 (by omega) (by omega),?_⟩
   refine⟨_,wrap_i64 (by omega) (by omega),?_⟩
   exact⟨(j+1,V * dn.toNat),⟨by show j+1≤0;omega,by show WI (V * dn.toNat) (_ * dn.toNat ^ (j+1));rw [Nat.pow_succ,← Nat.mul_assoc,← hVe];exact⟨fun _=>rfl,fun h=>h,hle⟩⟩,ent_of [] [] [] rfl (sk) (sk) rfl,by show 0 - (j+1)<0 - j;omega⟩
  ·have n2:¬ ((V:Nat):Int)≤1024:=n2
   have hVb:=j2.big (by omega)
   have hV:WI V (worldsI [] (ds.take (k+1))):=by
    refine⟨fun h=>by omega,fun _=>?_,hV4⟩
    rw [sW]
    exact Nat.lt_of_lt_of_le hVb (Nat.mul_le_mul_left _ (Nat.pow_le_pow_right (by omega) j1))
   refine⟨_,wrap_i64 (by omega) (by omega),?_⟩
   exact⟨(k+1,V),⟨by show k+1≤ds.length;omega,by show nodesI [] (ds.take (k+1))≤6 * (k+1);omega,hV⟩,ent_of [] [] [] rfl ⟨⟨rfl,rfl⟩,congrArg (fun z:Nat=>i64 z) hN,congrArg (fun z:Nat=>i64 z) hG,rfl,rfl,trivial⟩ (sk) rfl,by show ds.length - (k+1)<ds.length - k;omega⟩
 ·have q5:¬ dk=5:=q5
  rw [if_neg q5] at sG
  have hG:gainsI (ds.take (k+1))=gainsI (ds.take k):=sG
  refine⟨((nodesI [] (ds.take k)+0:Nat):Int),by rw [Int.natCast_add];exact wrap_i64 (by omega) (by omega),?_⟩
  refine⟨Nat × Nat,fun y=>[(1, .ptr 0 0 0),(3, .p (i64 (nodesI [] (ds.take k)+0:Nat))),(4, .p (i64 (gainsI (ds.take k):Nat))),(5, .p (i64 (y.2:Nat))),(6, .p (i64 k)),(7, .ptr 1 0 0),(8, .p (i64 (0:Nat))),(9, .p (i64 y.1))],fun _=>⟨2,[(1,dcO ⟨dk,dn,dnm,dpl,drs,dcs⟩),(0,scO ds)]⟩,fun y=>y.1≤0∧WI y.2 (worldsI [] (ds.take k) * dn.toNat ^ y.1),fun y=>0 - y.1,?_,?_⟩
  ·exact⟨(0,W),⟨Nat.zero_le _,by show WI W (_ * _ ^ 0);rw [Nat.pow_zero,Nat.mul_one];exact k3⟩,ent_of [] [] [] rfl (sk) (sk) rfl⟩
  rintro⟨j,V⟩ ⟨j1,j2⟩
  simp only [] at j1 j2
  have hV4:=j2.hi
  (first | refine brLt (fun n1=>?_) (fun n1=>?_) | refine brLe (fun n1=>?_) (fun n1=>?_) | refine brEq (fun n1=>?_) (fun n1=>?_))
  rotate_left
  ·have n1:¬ (j:Int)<(0:Nat):=n1
   have hjm:j=0:=by omega
   have hV:WI V (worldsI [] (ds.take (k+1))):=by rw [sW,← hjm];exact j2
   refine⟨_,wrap_i64 (by omega) (by omega),?_⟩
   exact⟨(k+1,V),⟨by show k+1≤ds.length;omega,by show nodesI [] (ds.take (k+1))≤6 * (k+1);omega,hV⟩,ent_of [] [] [] rfl ⟨⟨rfl,rfl⟩,congrArg (fun z:Nat=>i64 z) hN,congrArg (fun z:Nat=>i64 z) hG,rfl,rfl,trivial⟩ (sk) rfl,by show ds.length - (k+1)<ds.length - k;omega⟩
  have n1:(j:Int)<(0:Nat):=n1
  have hd:=hq (by omega)
  (first | refine brLt (fun n2=>?_) (fun n2=>?_) | refine brLe (fun n2=>?_) (fun n2=>?_) | refine brEq (fun n2=>?_) (fun n2=>?_))
  ·have n2:((V:Nat):Int)≤1024:=n2
   have hVe:=j2.eq (by omega)
   have hmul:((V:Nat):Int) * dn=((V * dn.toNat:Nat):Int):=by rw [Int.natCast_mul,show((dn.toNat:Nat):Int)=dn by omega]
   have hle:V * dn.toNat≤1024 * 4:=Nat.mul_le_mul (by omega) (by omega)
   refine⟨((V * dn.toNat:Nat):Int),by rw [← hmul];exact wrap_i64 (by omega) (by omega),?_⟩
   refine⟨_,wrap_i64 (by omega) (by omega),?_⟩
   exact⟨(j+1,V * dn.toNat),⟨by show j+1≤0;omega,by show WI (V * dn.toNat) (_ * dn.toNat ^ (j+1));rw [Nat.pow_succ,← Nat.mul_assoc,← hVe];exact⟨fun _=>rfl,fun h=>h,hle⟩⟩,ent_of [] [] [] rfl (sk) (sk) rfl,by show 0 - (j+1)<0 - j;omega⟩
  ·have n2:¬ ((V:Nat):Int)≤1024:=n2
   have hVb:=j2.big (by omega)
   have hV:WI V (worldsI [] (ds.take (k+1))):=by
    refine⟨fun h=>by omega,fun _=>?_,hV4⟩
    rw [sW]
    exact Nat.lt_of_lt_of_le hVb (Nat.mul_le_mul_left _ (Nat.pow_le_pow_right (by omega) j1))
   refine⟨_,wrap_i64 (by omega) (by omega),?_⟩
   exact⟨(k+1,V),⟨by show k+1≤ds.length;omega,by show nodesI [] (ds.take (k+1))≤6 * (k+1);omega,hV⟩,ent_of [] [] [] rfl ⟨⟨rfl,rfl⟩,congrArg (fun z:Nat=>i64 z) hN,congrArg (fun z:Nat=>i64 z) hG,rfl,rfl,trivial⟩ (sk) rfl,by show ds.length - (k+1)<ds.length - k;omega⟩
abbrev otA9:OT:=(.pure 0 (.pure 1 (.pure 2 (.pure 3 (.pure 4 (.pure 5 (.pure 6 (.pure 7 (.pure 8 (.pure 9 (.pure 10 (.eff 11 [] (.eff 12 [] (.pure 13 .fin) .nil) .nil))))))))))))
theorem valid_z {ds:List De} (h:validB ds=true):∀ d∈ds,DcZ d:=fun d hd=>declB_z ((valid_decl h).2 d hd)
abbrev raH (ds:List De) (x:Nat × List Iss):Hp:=⟨2,[(1,isO x.2),(0,scO ds)]⟩
theorem rall_c (ds:List De) (hv:validB ds=true):Pure cx 54 [srcV ds] (·=.ret [isl (allI ds)]):=by
 obtain⟨hlen,hdv⟩:=valid_dcs hv
 have hz:=valid_z hv
 have hok:∀ d∈ds,OkD d:=fun d hd=>(hdv d hd).ok.ok
 have hm:(ds.map De.cells).length=ds.length:=List.length_map ..
 have hpre:∀ k,(headI ds++eachI (grainI ds) [] (ds.take k)).length≤13000:=fun k=>by
  have h1:=headI_len ds
  have h2:=eachI_len (grainI ds) (ds.take k) [] fun d hd=>hdv d (List.mem_of_mem_take hd)
  rw [List.length_take] at h2
  rw [List.length_append];omega
 refine pure_of_vc Tryz.func54 rfl rfl rfl ?_
 apply cut
 case h=>
  intro key
  by_cases h0:ds=[]
  ·have hh:headI ds=[⟨1,0,[]⟩]:=by rw [h0];rfl
   have hg:grainI ds=0:=by rw [h0];rfl
   refine And.intro (fun _=>?_) (fun h=>absurd (show((ds.map De.cells).length:Int)=0 by rw [h0];rfl) h)
   refine⟨by show 0+1≤1;omega,[Iss.cells ⟨1,0,[]⟩],rfl,?_⟩
   refine⟨by show 1 * 32≤140737488355328;decide,?_⟩
   exact⟨Nat × List Iss,fun x=>[(1, .ptr 0 0 0),(3, .sl 1 3 0 x.2.length),(4, .p (i64 (grainI ds))),(5, .p (i64 x.1))],raH ds,fun x=>x.1≤ds.length∧x.2=headI ds++eachI (grainI ds) [] (ds.take x.1),fun x=>ds.length - x.1,⟨(0,[⟨1,0,[]⟩]),⟨Nat.zero_le _,by show _=headI ds++[];rw [List.append_nil,hh]⟩,ent_of [] [(1,2)] [] rfl ⟨⟨rfl,rfl⟩,rfl,congrArg (fun z:Int=>i64 z) hg,rfl,trivial⟩ (sk) rfl⟩,key.get⟩
  ·have hpos:1≤ds.length:=by
    cases ds with
    | nil=>exact absurd rfl h0
    | cons d r=>show 1≤r.length+1;omega
   have hh:∃ t:De,(ds.map De.cells)[0]?=some t.cells∧(headI ds=if t.kind=1 then [] else [⟨1,0,[]⟩])∧(grainI ds=if t.kind=1 then t.n else 0):=by
    cases ds with
    | nil=>exact absurd rfl h0
    | cons t r=>exact⟨t,rfl,rfl,rfl⟩
   obtain⟨⟨tk,tn,tnm,tpl,trs,tcs⟩,ht,hh,hg⟩:=hh
   refine And.intro (fun h=>absurd (show((ds.map De.cells).length:Int)=0 from h) (by rw [hm];omega)) (fun _=>?_)
   refine⟨_,⟨by decide,(De.mk tk tn tnm tpl trs tcs).cells,ht,rfl⟩,?_⟩
   refine And.intro (fun k1=>?_) (fun k1=>?_)
   ·have k1:tk=1:=k1
    simp only [if_pos k1] at hh hg
    refine⟨_,⟨by decide,(De.mk tk tn tnm tpl trs tcs).cells,ht,rfl⟩,?_⟩
    exact⟨Nat × List Iss,fun x=>[(1, .ptr 0 0 0),(3, .sl 1 3 0 x.2.length),(4, .p (i64 (grainI ds))),(5, .p (i64 x.1))],raH ds,fun x=>x.1≤ds.length∧x.2=headI ds++eachI (grainI ds) [] (ds.take x.1),fun x=>ds.length - x.1,⟨(0,[]),⟨Nat.zero_le _,by show _=headI ds++[];rw [List.append_nil,hh]⟩,ent_of [] [] [(1,3)] rfl ⟨⟨rfl,rfl⟩,sk,congrArg (fun z:Int=>i64 z) hg,rfl,trivial⟩ (sk) rfl⟩,key.get⟩
   ·have k1:¬ tk=1:=k1
    simp only [if_neg k1] at hh hg
    refine⟨by show 0+1≤1;omega,[Iss.cells ⟨1,0,[]⟩],rfl,?_⟩
    refine⟨by show 1 * 32≤140737488355328;decide,?_⟩
    exact⟨Nat × List Iss,fun x=>[(1, .ptr 0 0 0),(3, .sl 1 3 0 x.2.length),(4, .p (i64 (grainI ds))),(5, .p (i64 x.1))],raH ds,fun x=>x.1≤ds.length∧x.2=headI ds++eachI (grainI ds) [] (ds.take x.1),fun x=>ds.length - x.1,⟨(0,[⟨1,0,[]⟩]),⟨Nat.zero_le _,by show _=headI ds++[];rw [List.append_nil,hh]⟩,ent_of [] [(1,2)] [] rfl ⟨⟨rfl,rfl⟩,rfl,congrArg (fun z:Int=>i64 z) hg,rfl,trivial⟩ (sk) rfl⟩,key.get⟩
 case k=>
  rintro⟨k,cur⟩ ⟨k1,k2⟩
  simp only [] at k1 k2
  have hcl:cur.length≤13000:=by rw [k2];exact hpre k
  (first | refine brLt (fun m1=>?_) (fun m1=>?_) | refine brLe (fun m1=>?_) (fun m1=>?_) | refine brEq (fun m1=>?_) (fun m1=>?_))
  rotate_left
  ·have m1:¬ (k:Int)<((ds.map De.cells).length:Nat):=m1
   rw [hm] at m1
   rw [show ds.take k=ds from take_all (by omega)] at k2
   obtain⟨R,hR⟩:∃ R,R=allI ds:=⟨_,rfl⟩
   rw [← hR]
   by_cases hb:cur=[]
   ·subst hb
    have hno:eachI (grainI ds) [] ds=[]:=(List.append_eq_nil_iff.1 k2.symm).2
    have hRa:R=if bigI ds then [⟨10,ds.length,[]⟩] else []:=by rw [hR,allI,if_pos (show baseI ds=[] from k2.symm)]
    have hB:=rbig_c ds hlen hok hno
    refine And.intro (fun _=>?_) (fun h=>absurd rfl h)
    by_cases hbg:bigI ds=true
    ·rw [if_pos hbg] at hRa
     rw [hbg] at hB
     refine hB.eq rfl ?_
     refine⟨by show 0+1≤1;omega,[Iss.cells (Iss.mk 10 ((ds.map De.cells).length:Nat) [])],rfl,?_⟩
     refine⟨by show 0+0≤0;decide,[],rfl,by show(0+1) * 32≤140737488355328;decide,[Iss.cells (Iss.mk 10 ((ds.map De.cells).length:Nat) [])],rfl,?_⟩
     exact end1 (isl [Iss.mk 10 ((ds.map De.cells).length:Nat) []]) rfl ⟨_,rfl,by show 0+1≤1;decide,rfl⟩ (by rw [hRa,hm])
    ·rw [if_neg hbg] at hRa
     rw [Bool.not_eq_true] at hbg
     rw [hbg] at hB
     refine hB.eq rfl ?_
     exact end1 (isl []) rfl ⟨_,rfl,by show 0+0≤0;decide,rfl⟩ (by rw [hRa])
   ·have hRa:R=cur:=by
     rw [hR,allI,if_neg (show ¬ baseI ds=[] from fun e=>hb (k2.trans e))];exact k2.symm
    have hl0:¬ cur.length=0:=fun e=>hb (List.eq_nil_of_length_eq_zero e)
    refine And.intro (fun h=>absurd (show((cur.length:Nat):Int)=0 from h) (by omega)) (fun _=>?_)
    exact end1 (isl cur) rfl ⟨_,rfl,by show 0+cur.length≤(cur.map Iss.cells).length;simp,takeAll (by simp)⟩ (by rw [hRa])
  have m1:(k:Int)<((ds.map De.cells).length:Nat):=m1
  rw [hm] at m1
  have hk:k<ds.length:=by omega
  have hcell:=decell hk
  have hd:=hdv _ (getD_memL de0 hk)
  have hdz:=hz _ (getD_memL de0 hk)
  have hO:=rone_c (ds.take k) (ds.getD k de0) (grainI ds) hd hdz (by rw [List.length_take];omega) fun d hd=>hok d (List.mem_of_mem_take hd)
  have hln:=oneI_len (ds.take k) (grainI ds) hd
  have k4:cur++oneI (ds.take k) (ds.getD k de0) (grainI ds)=headI ds++eachI (grainI ds) [] (ds.take (k+1)):=by rw [each_next hk,← List.append_assoc,← k2]
  generalize oneI (ds.take k) (ds.getD k de0) (grainI ds)=X at hO hln k4
  generalize ds.getD k de0=d at hcell hO
  obtain⟨dk,dn,dnm,dpl,drs,dcs⟩:=d
  have ea:[des (ds.take k),(De.mk dk dn dnm dpl drs dcs).pv,i64 (grainI ds)]=[PV.lsts 6 ((ds.map De.cells).take ((k:Nat):Int).toNat),(De.mk dk dn dnm dpl drs dcs).pv,i64 (grainI ds)]:=by show [PV.lsts 6 ((ds.take k).map De.cells),_,_]=_;rw [List.map_take];rfl
  rw [ea] at hO
  refine vdraw_ot otA9 (by kernel_rfl) ?_
  refine⟨by show(0:Int)≤(k:Nat)∧((k:Nat):Int)≤((ds.map De.cells).length:Nat);rw [hm];omega,?_⟩
  refine⟨_,⟨by omega,(De.mk dk dn dnm dpl drs dcs).cells,hcell,rfl⟩,?_⟩
  refine hO.eq rfl ?_
  refine⟨by show 0+cur.length≤(cur.map Iss.cells).length;simp,cur.map Iss.cells,takeAll (by simp),by show(cur.length+(X.map Iss.cells).length) * 32≤140737488355328;rw [List.length_map];omega,(cur++X).map Iss.cells,by rw [List.map_append],?_⟩
  refine⟨_,wrap_i64 (by omega) (by omega),?_⟩
  exact⟨(k+1,cur++X),⟨by show k+1≤ds.length;omega,k4⟩,ent_of [] [(1,2)] [] rfl ⟨⟨rfl,rfl⟩,congrArg (fun j:Nat=>AV.sl 2 3 0 j) (by rw [List.length_append,List.length_map]),rfl,rfl,trivial⟩ (sk) rfl,by show ds.length - (k+1)<ds.length - k;omega⟩
theorem rscheck_c (ds:List De) (hb:BigP ds):Pure cx 31 [srcV ds] (·=.ret [i64 (scopeE ds)]):=by
 have hC:=rOk_c ds hb
 by_cases hv:validB ds=true
 ·have hA:=rall_c ds hv
  rw [hv] at hC
  by_cases hn:allI ds=[]
  ·have hs:scopeE ds=0:=by rw [scopeE,if_pos hv,if_pos hn]
   rw [hs]
   rw [hn] at hA
   refine pure_of_vc Tryz.func31 rfl rfl rfl ?_
   refine hC.eq rfl ?_
   refine hA.eq rfl ?_
   refine And.intro (fun h=>absurd (show(0:Int)<0 from h) (by decide)) (fun _=>?_)
   exact end1 _ rfl rfl rfl
  ·have hs:scopeE ds=390:=by rw [scopeE,if_pos hv,if_neg hn]
   have hl:1≤(allI ds).length:=List.length_pos_iff.2 hn
   rw [hs]
   generalize allI ds=R at hA hl
   refine pure_of_vc Tryz.func31 rfl rfl rfl ?_
   refine hC.eq rfl ?_
   refine hA.eq rfl ?_
   refine And.intro (fun _=>?_) (fun h=>absurd (show(0:Int)<((R.map Iss.cells).length:Nat) by rw [List.length_map];omega) h)
   exact end1 _ rfl rfl rfl
 ·have hs:scopeE ds=380:=by rw [scopeE,if_neg hv]
  rw [hs]
  rw [Bool.not_eq_true] at hv
  rw [hv] at hC
  refine pure_of_vc Tryz.func31 rfl rfl rfl ?_
  refine hC.eq rfl ?_
  exact end1 _ rfl rfl rfl
def makeV (ds:List De):List PV:=if scopeE ds=0 then [.agg (groundG ds).cells,i64 0] else [.agg (Gr.mk [] 0 [] 0 []).cells,i64 (scopeE ds)]
theorem fine_of {ds:List De} (h:scopeE ds=0):FineP ds:=by
 unfold scopeE at h
 split at h
 ·split at h
  ·exact⟨‹_›,‹_›⟩
  ·omega
 ·omega
theorem zgr_nil:NilDL [PV.nils,i64 0, .nils, .int .u64 0, .nils] (Gr.mk [] 0 [] 0 []).cells:=
 ⟨_,_,rfl, .inr (.inl rfl),_,_,rfl,rfl,_,_,rfl, .inr (.inr ⟨3,rfl⟩),_,_,rfl,rfl,_,_,rfl, .inr (.inr ⟨2,rfl⟩),rfl⟩
theorem rmake_c (ds:List De) (hb:BigP ds):Pure cx 14 [srcV ds] (·=.ret (makeV ds)):=by
 have hC:=rscheck_c ds hb
 by_cases hs:scopeE ds=0
 ·rw [makeV,if_pos hs]
  rw [hs] at hC
  have hO:=gof_c ds (fine_of hs)
  generalize groundG ds=g at hO
  obtain⟨g1,g2,g3,g4,g5⟩:=g
  refine pure_of_vc Tryz.func14 rfl rfl rfl ?_
  refine hC.eq rfl ?_
  refine And.intro (fun _=>?_) (fun h=>absurd rfl h)
  refine hO.eq rfl ?_
  exact end2 _ (i64 0) rfl rfl rfl rfl
 ·rw [makeV,if_neg hs]
  generalize scopeE ds=e at hC hs
  refine(?_:Pure cx 14 [srcV ds] (·=.ret [.agg [.nils,i64 0, .nils, .int .u64 0, .nils],i64 e])).nil ⟨_,rfl,_,_,rfl,⟨_,rfl,zgr_nil⟩,_,_,rfl,rfl,rfl⟩
  refine pure_of_vc Tryz.func14 rfl rfl rfl ?_
  refine hC.eq rfl ?_
  refine And.intro (fun h=>absurd (show e=0 from h) hs) (fun _=>?_)
  exact end2 (.agg [.nils,i64 0, .nils, .int .u64 0, .nils]) (i64 e) rfl (sk) rfl rfl
structure Nt where
 grain:Int
 nodes:List Nd
abbrev Nt.cells (n:Nt):List PV:=[i64 n.grain, .lsts 3 (n.nodes.map Nd.cells)]
theorem FineP.grz {ds:List De} (h:FineP ds):GrZ (groundG ds):=by
 obtain⟨he1,he8⟩:=h.eight
 have hp8:∀ refs idx,(parG (memG ds ds) refs idx).length≤8:=fun refs idx=>by
  have:=List.length_filter_le (fun i=>refs.any fun r=>isG ((memG ds ds).getD i mb0) r idx) (List.range (memG ds ds).length)
  rw [List.length_range] at this
  exact Nat.le_trans this he8
 have hrl:∀ cs idx refs idx',(rowsG (memG ds ds) cs idx (parG (memG ds ds) refs idx') (zeroG (memG ds ds).length)).length≤65536:=fun cs idx refs idx'=>
  Nat.le_trans (rowsG_len (memG ds ds) cs idx _ _ fun i hi=>(h.card (getD_memL mb0 (par_lt i hi))).2) (Nat.le_trans (Nat.pow_le_pow_right (by decide) (hp8 refs idx')) (by decide))
 refine⟨?_,?_,fun x hx=>?_,?_,fun x hx=>?_⟩
 ·show((memG ds ds).map Mb.name).length≤_
  rw [List.length_map];omega
 ·show((memG ds ds).map (nodeG (memG ds ds))).length≤_
  rw [List.length_map];omega
 ·obtain⟨m,hm,rfl⟩:=List.mem_map.1 hx
  obtain⟨j,hj,hd,hk,_⟩:=h.member hm
  refine⟨by show(parG _ _ _).length≤_;have:=hp8 m.d.refs m.idx;omega,?_,?_⟩
  ·show(if m.d.kind=4 then [] else _).length≤_
   split
   ·simp
   ·have:=hrl m.d.cases m.idx m.d.refs m.idx;omega
  ·show ∀ r∈(if m.d.kind=4 then [] else _),_
   split
   ·intro r hr;cases hr
   ·rename_i h4
    intro r hr
    rw [hd] at hr h4
    obtain⟨c,hc,rfl⟩:=h.rows hj (.inl (by omega)) hr
    have:=(h.case hj (.inl (by omega)) hc).2.2.2
    omega
 ·show((ds.filter fun d=>decide (d.kind=5)).map (utilG (memG ds ds))).length≤_
  rw [List.length_map]
  have:=List.length_filter_le (fun d:De=>decide (d.kind=5)) ds
  have:=h.len.2
  omega
 ·obtain⟨d,hd,rfl⟩:=List.mem_map.1 hx
  refine⟨by show(parG _ _ _).length≤_;have:=hp8 d.refs 0;omega,?_⟩
  show((rowsG _ _ _ _ _).map _).length≤_
  rw [List.length_map]
  have:=hrl d.cases 0 d.refs 0
  omega
theorem zero_grz:GrZ ⟨[],0,[],0,[]⟩:=⟨by decide,by decide,fun x hx=>(by cases hx),by decide,fun x hx=>(by cases hx)⟩
theorem make_form8 (u:List De):∃ g e,makeV u=[.agg (Gr.cells g),i64 e]∧GrZ g∧g.names.length≤8:=by
 by_cases hs:scopeE u=0
 ·refine⟨groundG u,0,by rw [makeV,if_pos hs],(fine_of hs).grz,?_⟩
  show((memG u u).map Mb.name).length≤8
  rw [List.length_map]
  exact(fine_of hs).eight.2
 ·exact⟨⟨[],0,[],0,[]⟩,scopeE u,by rw [makeV,if_neg hs],zero_grz,by decide⟩
set_option maxHeartbeats 4000000
set_option maxHeartbeats 40000000
abbrev zc0:List PV:=[i64 0,i64 0,i64 0,i64 0, .str [],i64 0, .str [],i64 0, .nils, .nils]
theorem nil_zc (l:List Int):NilDL (zc0++[.lst (l.map i64)]) (⟨cd0,l⟩:Cs).cells:=by
 show NilDL [i64 0,i64 0,i64 0,i64 0, .str [],i64 0, .str [],i64 0, .nils, .nils, .lst (l.map i64)] [i64 0,i64 0,i64 0,i64 0, .str [],i64 0, .str [],i64 0, .lst [], .lsts 10 [], .lst (l.map i64)]
 simp only [NilD,NilDL]
 exact⟨_,_,rfl,rfl,_,_,rfl,rfl,_,_,rfl,rfl,_,_,rfl,rfl,_,_,rfl,rfl,_,_,rfl,rfl,_,_,rfl,rfl,_,_,rfl,rfl,_,_,rfl, .inr (.inl rfl),_,_,rfl, .inr (.inr ⟨10,rfl⟩),_,_,rfl,⟨_,rfl,NilDL.refl _⟩,rfl⟩
structure Small (d:Nat) (c:Cd) (n:Nat):Prop where
 pos:1≤n
 valid:∀ left,n≤left→condV d c left=some (left - n)
 big:BigC c
 len:(spW true (condT c)).length≤240 * n
theorem leaf_few {op n rel val:Int} {r:Rf} {st:List Int} (hb:leafB op n rel val r st=true) (hs:st.length≤4):(leafT op n rel val r st).length≤21:=by
 unfold leafB at hb
 unfold leafT
 by_cases c6:op=6
 ·rw [if_neg (by omega),if_neg (by omega),if_pos c6] at hb
  simp only [Bool.and_eq_true,decide_eq_true_eq] at hb
  have hr:=ref_toks hb.1.1.1.1.1.1
  rw [if_pos c6]
  simp only [List.length_append,List.length_cons,List.length_nil];omega
 ·rw [if_neg c6]
  by_cases c5:op=5
  ·rw [if_neg (by omega),if_pos c5] at hb
   simp only [Bool.and_eq_true,decide_eq_true_eq] at hb
   obtain⟨⟨⟨⟨b1,b2⟩,b3⟩,b4⟩,b5⟩:=hb
   rw [if_pos c5]
   have hr:=ref_toks b1
   have hset:=setB_facts b5
   have hs:=sep_toks (f:=fun n=>[digT n]) (b:=1) (l:=st) fun a ha=>⟨allT_cons (tok_dig (hset.2.1 a ha)) allT_nil,by simp⟩
   simp only [List.length_append,List.length_cons,List.length_nil];omega
  ·rw [if_neg c5]
   by_cases c1:op=1∨op=2∨op=3∨op=4
   ·rw [if_pos c1] at hb
    simp only [Bool.and_eq_true,decide_eq_true_eq] at hb
    have hr:=ref_toks hb.1.1.1.1
    simp only [List.length_append,List.length_cons,List.length_nil];omega
   ·rw [if_neg c1,if_neg c5,if_neg c6] at hb
    cases hb
theorem ref_bigB {r:Rf} (h:refB r=true):BigR r:=by
 obtain⟨nm,m,pl,n⟩:=r
 rw [refB,Bool.and_eq_true] at h
 have h1:=name_len h.1
 refine⟨by show nm.length≤_;have h1:nm.length≤10:=h1;omega,?_⟩
 have h2:=h.2
 simp only [] at h2
 show pl.length≤_
 split at h2
 ·simp only [Bool.and_eq_true,decide_eq_true_eq] at h2
  rw [h2.1];simp
 ·split at h2
  ·simp only [Bool.and_eq_true] at h2
   have:=name_len h2.1
   omega
  ·split at h2
   ·simp only [Bool.and_eq_true,decide_eq_true_eq] at h2
    rw [h2.1];simp
   ·cases h2
theorem leafB_ref {op n rel val:Int} {r:Rf} {st:List Int} (hb:leafB op n rel val r st=true):refB r=true:=(leafB_facts hb).1
theorem leaf_small {op n rel val:Int} {r:Rf} {st:List Int} (h7:¬ op=7) (h8:¬ op=8) (h9:¬ op=9) (hb:leafB op n rel val r st=true) (hs:st.length≤4) (d:Nat):Small (d+1) (.mk op n rel val r st []) 1:=by
 refine⟨Nat.le_refl _,fun left hl=>?_,big_leaf (ref_bigB (leafB_ref hb)) (by omega),?_⟩
 ·rw [condV,if_neg (by omega),if_pos]
  ·rfl
  ·have h0:argsN op=0:=by rw [argsN,if_neg h7,if_neg (by omega)]
   rw [headB,if_pos h0,hb];rfl
 ·rw [condT_leaf h7 h8 h9]
  have h1:=leaf_few hb hs
  have h2:=spW_len true (leaf_toks hb).1
  omega
theorem len_in (k:Nat) (p:Int × Toks):(spW true (inT k p)).length≤(spW true p.2).length+4:=by
 unfold inT
 split
 ·show(spW true ([tLP]++(p.2++[tRP]))).length≤_
  rw [spW_t,spW_t]
  simp [spW]
 ·omega
theorem two_small {d na nb:Nat} {a b:Cd} {op:Int} (ho:op=8∨op=9) (ha:Small d a na) (hb:Small d b nb):Small (d+1) (.mk op 0 0 0 rf0 [] [a,b]) (1+na+nb):=by
 have h1:=ha.pos
 have h2:=hb.pos
 have l1:=ha.len
 have l2:=hb.len
 refine⟨by omega,fun left hl=>?_,big_two ha.big hb.big,?_⟩
 ·rw [condV,if_neg (by omega),if_pos]
  ·show(do
    let l ← condV d a (left - 1)
    let l ← condV d b l
    some l)=_
   rw [ha.valid _ (by omega)]
   show(do
    let l ← condV d b (left - 1 - na)
    some l)=_
   rw [hb.valid _ (by omega)]
   show some _=some _
   congr 1;omega
  ·rcases ho with rfl | rfl <;> rfl
 ·rcases ho with rfl | rfl
  ·rw [condT_conj,spW_t]
   have k1:=len_in 2 (a.op,condT a)
   have k2:=len_in 3 (b.op,condT b)
   simp only [] at k1 k2
   show((spW true (inT 2 (a.op,condT a)))++spW true ([tAnd]++inT 3 (b.op,condT b))).length≤_
   rw [spW_t,List.length_append,List.length_append]
   have k3:(spW true [tAnd]).length=4:=rfl
   omega
  ·rw [condT_disj,spW_t]
   have k1:=len_in 1 (a.op,condT a)
   have k2:=len_in 2 (b.op,condT b)
   simp only [] at k1 k2
   show((spW true (inT 1 (a.op,condT a)))++spW true ([tOr]++inT 2 (b.op,condT b))).length≤_
   rw [spW_t,List.length_append,List.length_append]
   have k3:(spW true [tOr]).length=3:=rfl
   omega
theorem neg_small {d na:Nat} {a:Cd} (ha:Small d a na):Small (d+1) (.mk 7 0 0 0 rf0 [] [a]) (1+na):=by
 have h1:=ha.pos
 have l1:=ha.len
 refine⟨by omega,fun left hl=>?_,big_one ha.big,?_⟩
 ·rw [condV,if_neg (by omega),if_pos]
  ·show(do
    let l ← condV d a (left - 1)
    some l)=_
   rw [ha.valid _ (by omega)]
   show some _=some _
   congr 1;omega
  ·rfl
 ·rw [condT_neg]
  have k1:=len_in 3 (a.op,condT a)
  simp only [] at k1
  show(spW true ([tNot]++inT 3 (a.op,condT a))).length≤_
  rw [spW_t,List.length_append]
  have k3:(spW true [tNot]).length=4:=rfl
  omega
theorem p_name:nameN [112]=true:=by decide
theorem refB0 {nm:List UInt8} (h:nameN nm=true):refB ⟨nm,0,[],0⟩=true:=by rw [refB,h];rfl
theorem refB3 {nm:List UInt8} (h:nameN nm=true):refB ⟨nm,3,[],0⟩=true:=by rw [refB,h];rfl
theorem refB2 {nm:List UInt8} {n:Int} (h:nameN nm=true) (hn:natB n=true):refB ⟨nm,2,[],n⟩=true:=by
 show(nameN nm && (decide (([]:List UInt8)=[]) && natB n))=true
 rw [h,hn];rfl
theorem refB1 {nm pl:List UInt8} {n:Int} (h:nameN nm=true) (hp:nameN pl=true) (hn:natB n=true):refB ⟨nm,1,pl,n⟩=true:=by
 show(nameN nm && (nameN pl && natB n))=true
 rw [h,hp,hn];rfl
theorem leafB1 {op n:Int} {r:Rf} (ho:1≤op∧op≤4) (hr:refB r=true) (hn:natB n=true):leafB op n 0 0 r []=true:=by
 unfold leafB
 rw [if_pos (by omega),hr,hn];rfl
theorem leafB5 {r:Rf} {st:List Int} (hr:refB r=true) (hs:setB st=true):leafB 5 0 0 0 r st=true:=by
 unfold leafB
 rw [if_neg (by decide),if_pos rfl,hr,hs];rfl
theorem nil_leafD (rf:Rf) (L:List Int) (j:Nat):NilD (.agg [i64 5,i64 0,i64 0,i64 0, .str rf.name,i64 rf.mode, .str rf.plate,i64 rf.n, .lst ((L.map i64).drop j), .nils]) (Cd.mk 5 0 0 0 rf (L.drop j) []).pv:=by
 rw [← List.map_drop]
 exact nil_leaf 5 0 0 0 rf (L.drop j)
abbrev withD (c:Cd):De:=⟨5,0,[],[],[],[⟨c,[1]⟩,⟨cd0,[-1,0]⟩]⟩
set_option maxHeartbeats 4000000
def isLP (t:List UInt8):Nat:=if t=tLP then 1 else 0
def lpP (ws:List Wd):Nat→Nat
 | 0=>0
 | q+1=>lpP ws q+isLP (txt ws q)
def pn (k:Nat) (p:Int × Nat):Nat:=p.2+if lvl p.1<k then 1 else 0
def cpJ (op:Int) (ps:List (Int × Nat)):Nat:=
 if op=9 then pn 1 (ps.getD 0 (0,0))+pn 2 (ps.getD 1 (0,0)) else if op=8 then pn 2 (ps.getD 0 (0,0))+pn 3 (ps.getD 1 (0,0)) else if op=7 then pn 3 (ps.getD 0 (0,0)) else if op=6 then 1 else 0
mutual
def cp:Cd→Nat
 | .mk op _ _ _ _ _ ar=>cpJ op (cpL ar)
def cpL:List Cd→List (Int × Nat)
 | []=>[]
 | c::r=>(c.op,cp c)::cpL r
end
def pin (k:Nat) (c:Cd):Nat:=pn k (c.op,cp c)
structure CLp (ws:List Wd) (F:Nat):Prop where
 cond:∀ {q c q'},condR ws F q=.inr (c,q')→lpP ws q+pin 1 c≤lpP ws q'
 orr:∀ {d q c q'},orR ws F d q=.inr (c,q')→∀ s,s+pin 1 d≤lpP ws q→s+pin 1 c≤lpP ws q'
 conj:∀ {q c q'},conjR ws F q=.inr (c,q')→lpP ws q+pin 2 c≤lpP ws q'
 andr:∀ {d q c q'},andR ws F d q=.inr (c,q')→∀ s,s+pin 2 d≤lpP ws q→s+pin 2 c≤lpP ws q'
 neg:∀ {q c q'},negR ws F q=.inr (c,q')→lpP ws q+pin 3 c≤lpP ws q'
 test:∀ {q c q'},testR ws F q=.inr (c,q')→lpP ws q+pin 4 c≤lpP ws q'
def lpT (x:Toks):Nat:=(x.map isLP).sum
def wgh (t:List UInt8):Int:=if t=tLP then 1 else if t=tRP then -1 else 0
def tot (x:Toks):Int:=(x.map wgh).sum
theorem tot_app (x y:Toks):tot (x++y)=tot x+tot y:=by rw [tot,List.map_append,List.sum_append];rfl
structure Bal (x:Toks):Prop where
 all:tot x=0
 pre:∀ n,0≤tot (x.take n)
theorem Bal.app {x y:Toks} (hx:Bal x) (hy:Bal y):Bal (x++y):=by
 refine⟨by rw [tot_app,hx.all,hy.all];rfl,fun n=>?_⟩
 rw [List.take_append,tot_app]
 have:=hx.pre n
 have:=hy.pre (n - x.length)
 omega
def Pl (t:List UInt8):Prop:=t ≠ tLP∧t ≠ tRP
structure CanP (c:Cd):Prop where
 bal:Bal (condT c)
 lp:lpT (condT c)=cp c
def rend1 (x:Toks):List UInt8:=x.flatMap fun t=>t++[32]
set_option maxHeartbeats 40000000
structure WithF (c:Cd):Prop where
 valid:validB [withD c]=true
 all:AllT (declT (withD c))
 num:(declT (withD c)).length≤1500
 txt:(textT [withD c]).length≤8000
 len:(rend1 (declT (withD c))).length≤8000
 can:CanP c
 big:BigP [withD c]
set_option maxHeartbeats 4000000
def lw:Toks→Nat
 | []=>0
 | x::l=>x.length+lw l
theorem lw_cons (t:List UInt8) (x:Toks):lw (t::x)=t.length+lw x:=rfl
theorem lw_n:lw []=0:=rfl
theorem lw_app:∀ a b:Toks,lw (a++b)=lw a+lw b
 | [],b=>by simp [lw]
 | x::a,b=>by rw [List.cons_append,lw,lw,lw_app a b];omega
def nbB (c:UInt8):Bool:=decide (c.toNat ≠ 32) && decide (c.toNat ≠ 10)
def nb (s:List UInt8):Nat:=(s.filter nbB).length
def PLt (p q:Nat × Nat):Prop:=p.1<q.1∨(p.1=q.1∧p.2<q.2)
theorem PLt.trans {p q r:Nat × Nat} (h:PLt p q) (k:PLt q r):PLt p r:=by
 unfold PLt at *;omega
structure WSp (s:List UInt8) (k:Nat) (acc:List Wd):Prop where
 pl:∀ w∈acc,∃ o,o<k∧o≤s.length∧w.line=(at_ s o).1∧w.col=(at_ s o).2
 ne:∀ i j,i<j→j<acc.length→¬ ((wat acc i).line=(wat acc j).line∧(wat acc i).col=(wat acc j).col)
 lw:lw (acc.map Wd.text)≤nb (s.take k)
theorem lw_dig (n:Int):(digT n).length≤4:=dig_len 4 _
theorem lw_dig1 {n:Int} (h:n≤9):(digT n).length≤1:=by
 rw [digT,digN,if_pos (by omega)]
 exact Nat.le_refl _
theorem lw_flat {α:Type} {f:α→Toks} {b:Nat}:∀ {l:List α},(∀ a∈l,lw (f a)≤b)→lw (l.flatMap f)≤b * l.length
 | [],_=>Nat.zero_le _
 | a::l,h=>by
  have h1:=h a (List.mem_cons_self ..)
  have h2:=lw_flat (l:=l) fun x hx=>h x (List.mem_cons_of_mem _ hx)
  rw [List.flatMap_cons,lw_app,List.length_cons,Nat.mul_succ];omega
theorem lw_sep {α:Type} {f:α→Toks} {b:Nat}:∀ {l:List α},(∀ a∈l,lw (f a)≤b)→lw (sepT f l)≤(b+1) * l.length
 | [],_=>Nat.zero_le _
 | a::l,h=>by
  have h1:=h a (List.mem_cons_self ..)
  have h2:=lw_flat (l:=l) (f:=fun b=>tComma::f b) (b:=b+1) fun x hx=>by
   have:=h x (List.mem_cons_of_mem _ hx)
   simp only [lw_cons,List.length_cons,List.length_nil];omega
  show lw (f a++l.flatMap fun b=>tComma::f b)≤_
  rw [lw_app,List.length_cons,Nat.mul_succ];omega
structure RfS (r:Rf):Prop where
 ok:refB r=true
 nm:r.name.length=1
 pl:r.plate.length≤1
 n:r.n≤9
theorem lw_tail {r:Rf} (h:r.plate.length≤1) (hn:r.n≤9):lw (tailT r)≤5:=by
 have h1:=lw_dig1 hn
 unfold tailT
 split
 ·decide
 ·split
  ·simp only [lw_cons,lw_n,List.length_cons,List.length_nil];omega
  ·split
   ·split <;> simp only [lw_cons,lw_n,List.length_cons,List.length_nil] <;> omega
   ·exact Nat.zero_le _
theorem lw_ref {r:Rf} (h:RfS r):lw (refT r)≤6:=by
 have h1:=lw_tail h.pl h.n
 have h2:=h.nm
 rw [refT,lw_cons];omega
theorem lw_rel (k:Int):(relT k).length≤2:=by
 unfold relT
 split
 ·decide
 ·split
  ·decide
  ·split <;> decide
theorem lw_leaf {op n rel val:Int} {r:Rf} {st:List Int} (h:RfS r) (hn:n≤9) (hv:val≤9) (hs:st.length≤2∧∀ a∈st,a≤9):lw (leafT op n rel val r st)≤18:=by
 have h0:=lw_ref h
 have h1:=lw_dig1 hn
 have h2:=lw_dig1 hv
 have h3:=lw_rel rel
 have h4:=lw_rel op
 have h5:=lw_sep (f:=fun n=>[digT n]) (b:=1) (l:=st) fun a ha=>by
  have:=lw_dig1 (hs.2 a ha)
  simp only [lw_cons,lw_n];omega
 have hs1:=hs.1
 unfold leafT
 split
 ·simp only [lw_app,lw_cons,lw_n,List.length_cons,List.length_nil];omega
 ·split
  ·simp only [lw_app,lw_cons,lw_n,List.length_cons,List.length_nil];omega
  ·simp only [lw_app,lw_cons,lw_n];omega
structure CdS (d:Nat) (c:Cd) (n k:Nat):Prop where
 sm:Small d c n
 wt:lw (condT c)≤k
theorem CdS.leaf {op n rel val:Int} {r:Rf} {st:List Int} (h7:¬ op=7) (h8:¬ op=8) (h9:¬ op=9) (hb:leafB op n rel val r st=true) (hr:RfS r) (hn:n≤9) (hv:val≤9) (hs:st.length≤2∧∀ a∈st,a≤9) (d:Nat):CdS (d+1) (.mk op n rel val r st []) 1 18:=
 ⟨leaf_small h7 h8 h9 hb (by have:=hs.1;omega) d,by rw [condT_leaf h7 h8 h9];exact lw_leaf hr hn hv hs⟩
theorem lw_in (k:Nat) (p:Int × Toks):lw (inT k p)≤lw p.2+2:=by
 unfold inT
 split
 ·simp only [lw_app,lw_cons,lw_n,List.length_cons,List.length_nil];omega
 ·omega
theorem CdS.neg {d n k:Nat} {a:Cd} (ha:CdS d a n k):CdS (d+1) (.mk 7 0 0 0 rf0 [] [a]) (1+n) (k+5):=by
 refine⟨neg_small ha.sm,?_⟩
 rw [condT_neg]
 have h1:=ha.wt
 have h2:=lw_in 3 (a.op,condT a)
 simp only [] at h2
 show lw (tNot::inT 3 (a.op,condT a))≤_
 rw [lw_cons]
 simp only [List.length_cons,List.length_nil];omega
theorem CdS.two {d na nb ka kb:Nat} {a b:Cd} {op:Int} (ho:op=8∨op=9) (ha:CdS d a na ka) (hb:CdS d b nb kb):CdS (d+1) (.mk op 0 0 0 rf0 [] [a,b]) (1+na+nb) (ka+kb+7):=by
 refine⟨two_small ho ha.sm hb.sm,?_⟩
 have h1:=ha.wt
 have h2:=hb.wt
 rcases ho with rfl | rfl
 ·rw [condT_conj]
  have k1:=lw_in 2 (a.op,condT a)
  have k2:=lw_in 3 (b.op,condT b)
  simp only [] at k1 k2
  show lw (inT 2 (a.op,condT a)++(tAnd::inT 3 (b.op,condT b)))≤_
  rw [lw_app,lw_cons]
  simp only [List.length_cons,List.length_nil];omega
 ·rw [condT_disj]
  have k1:=lw_in 1 (a.op,condT a)
  have k2:=lw_in 2 (b.op,condT b)
  simp only [] at k1 k2
  show lw (inT 1 (a.op,condT a)++(tOr::inT 2 (b.op,condT b)))≤_
  rw [lw_app,lw_cons]
  simp only [List.length_cons,List.length_nil];omega
theorem CdS.le {d n k k':Nat} {a:Cd} (h:CdS d a n k) (hk:k≤k'):CdS d a n k':=⟨h.sm,Nat.le_trans h.wt hk⟩
structure NuS (l:List Int):Prop where
 ok:numsB l=true
 wt:lw (numsT l)≤6
theorem NuS.len {l:List Int} (h:NuS l):l.length≤8:=by
 have:=h.ok
 simp only [numsB,Bool.and_eq_true,decide_eq_true_eq] at this
 exact this.1.2
structure CsS (c:Cs):Prop where
 cd:∃ n,n≤3∧CdS 8 c.cond n 43
 nu:NuS c.nums
structure LsS (c:Cs):Prop where
 cd:c.cond=cd0
 nu:NuS c.nums
theorem cd0_big:BigC cd0:=big_leaf ⟨by decide,by decide⟩ (by decide)
structure RuS (l:List Cs):Prop where
 ok:casesB l=true
 wt:lw (ruleT l)≤166
 big:BigL l
theorem pre_ok (last:Cs) (hl:LsS last):∀ pre:List Cs,(∀ c∈pre,CsS c)→casesT (pre++[last])=true∧lw (casesTx (pre++[last]))≤51 * pre.length+11∧(∀ c∈pre++[last],BigC c.cond∧c.nums.length≤9223372036854775807)
 | [],_=>by
  refine⟨?_,?_,fun c hc=>?_⟩
  ·show(numsB last.nums && noneB last.cond)=true
   rw [hl.nu.ok,hl.cd];rfl
  ·have:=hl.nu.wt
   show lw (tElse::tCol::numsT last.nums)≤_
   simp only [lw_cons,List.length_cons,List.length_nil];omega
  ·have:=List.mem_singleton.1 hc
   subst this
   have:=hl.nu.len
   exact⟨by rw [hl.cd];exact cd0_big,by omega⟩
 | c::pre,h=>by
  obtain⟨h1,h2,h3⟩:=pre_ok last hl pre fun x hx=>h x (List.mem_cons_of_mem _ hx)
  obtain⟨⟨n,hn,hc⟩,hu⟩:=h c (List.mem_cons_self ..)
  obtain⟨y,t,e⟩:∃ y t,pre++[last]=y::t:=by
   cases pre with
   | nil=>exact⟨_,_,rfl⟩
   | cons a b=>exact⟨_,_,rfl⟩
  rw [e] at h1 h2 h3
  rw [List.cons_append,e]
  refine⟨?_,?_,fun x hx=>?_⟩
  ·rw [casesT,hu.ok,hc.sm.valid 30 (by omega),h1];rfl
  ·have h4:=hc.wt
   have h5:=hu.wt
   rw [casesTx]
   simp only [lw_app,lw_cons,List.length_cons,List.length_nil];omega
  ·rcases List.mem_cons.1 hx with rfl | hx
   ·have:=hu.len
    exact⟨hc.sm.big,by omega⟩
   ·exact h3 x hx
theorem rule_ok {pre:List Cs} {last:Cs} (hp:pre.length≤3) (h:∀ c∈pre,CsS c) (hl:LsS last):RuS (pre++[last]):=by
 obtain⟨h1,h2,h3⟩:=pre_ok last hl pre h
 have e:(pre++[last]).length=pre.length+1:=by simp
 refine⟨?_,?_,⟨by omega,fun c hc=>(h3 c hc).1,fun c hc=>(h3 c hc).2⟩⟩
 ·rw [casesB,h1,decide_eq_true (by omega),decide_eq_true (by omega)];rfl
 ·rw [ruleT,lw_cons,lw_app]
  simp only [lw_cons,lw_n,List.length_cons,List.length_nil];omega
structure DeS (d:De) (k:Nat):Prop where
 ok:declB d=true
 big:BigD d
 wt:lw (declT d)≤k
theorem refs_lw {key:List UInt8} {l:List Rf} (hk:key.length≤6) (h:∀ r∈l,RfS r) (hl:l.length≤2):lw (refsT key l)≤20:=by
 unfold refsT
 split
 ·exact Nat.zero_le _
 ·have:=lw_sep (f:=refT) (b:=6) (l:=l) fun r hr=>lw_ref (h r hr)
  rw [lw_cons];omega
theorem refs_all {l:List Rf} (h:∀ r∈l,RfS r):l.all refB=true:=List.all_eq_true.2 fun r hr=>(h r hr).ok
theorem rfs_big {l:List Rf} (h:∀ r∈l,RfS r):∀ r∈l,BigR r:=fun r hr=>ref_bigB (h r hr).ok
theorem bS0:BigS []:=nil_big
theorem bS1:BigS [112]:=by rw [BigS];simp
theorem bN0:([]:List Rf).length≤9223372036854775807:=by simp
theorem grain_ok {n:Int} (hn:natB n=true):DeS ⟨1,n,[],[],[],[]⟩ 10:=by
 refine⟨?_,⟨bS0,bS0,bN0,fun r hr=>(by cases hr),noL_big⟩,?_⟩
 ·rw [declB,hn];rfl
 ·have:=lw_dig n
  show lw [tGrain,digT n,tSemi]≤_
  simp only [lw_cons,lw_n,List.length_cons,List.length_nil];omega
theorem plate_ok {n:Int} (hn:natB n=true):DeS ⟨2,n,[112],[],[],[]⟩ 12:=by
 refine⟨?_,⟨bS1,bS0,bN0,fun r hr=>(by cases hr),noL_big⟩,?_⟩
 ·rw [declB,hn];rfl
 ·have:=lw_dig n
  show lw [tPlate,[112],tEq,digT n,tSemi]≤_
  simp only [lw_cons,lw_n,List.length_cons,List.length_nil];omega
theorem choose_ok {n:Int} {nm:List UInt8} {rs:List Rf} (hn:natB n=true) (h1:nameN nm=true) (h2:nm.length=1) (hr:∀ r∈rs,RfS r) (hl:rs.length≤2):DeS ⟨4,n,nm,[],rs,[]⟩ 33:=by
 refine⟨?_,⟨by show nm.length≤9223372036854775807;omega,bS0,by show rs.length≤9223372036854775807;omega,rfs_big hr,noL_big⟩,?_⟩
 ·rw [declB,hn,refs_all hr,decide_eq_true (by show rs.length≤8;omega),kindB,if_neg (by show ¬ (4:Int)=1;decide),if_neg (by show ¬ (4:Int)=2;decide),if_neg (by show ¬ (4:Int)=3;decide),if_pos rfl,h1];rfl
 ·have h3:=lw_dig n
  have h4:=refs_lw (key:=tSeeing) (by decide) hr hl
  show lw (([tChoose,nm,tCol,digT n]++refsT tSeeing rs)++[tSemi])≤_
  simp only [lw_app,lw_cons,lw_n,List.length_cons,List.length_nil];omega
theorem gain_ok {rs:List Rf} {cs:List Cs} (hr:∀ r∈rs,RfS r) (hl:rs.length≤2) (hc:RuS cs):DeS ⟨5,0,[],[],rs,cs⟩ 192:=by
 refine⟨?_,⟨bS0,bS0,by show rs.length≤9223372036854775807;omega,rfs_big hr,hc.big⟩,?_⟩
 ·rw [declB,refs_all hr,decide_eq_true (by show rs.length≤8;omega),kindB,if_neg (by show ¬ (5:Int)=1;decide),if_neg (by show ¬ (5:Int)=2;decide),if_neg (by show ¬ (5:Int)=3;decide),if_neg (by show ¬ (5:Int)=4;decide),if_pos rfl,hc.ok];rfl
 ·have h4:=refs_lw (key:=tFrom) (by decide) hr hl
  have h5:=hc.wt
  show lw ((tGain::(refsT tFrom rs++(tEq::ruleT cs)))++[tSemi])≤_
  simp only [lw_app,lw_cons,lw_n,List.length_cons,List.length_nil];omega
theorem node_ok {n:Int} {nm pl:List UInt8} {rs:List Rf} {cs:List Cs} (hn:natB n=true) (h1:nameN nm=true) (h2:nm.length=1) (hp:pl=[]∨pl=[112]) (hr:∀ r∈rs,RfS r) (hl:rs.length≤2) (hc:RuS cs):DeS ⟨3,n,nm,pl,rs,cs⟩ 201:=by
 refine⟨?_,⟨by show nm.length≤9223372036854775807;omega,by rcases hp with rfl | rfl;exact bS0;exact bS1,by show rs.length≤9223372036854775807;omega,rfs_big hr,hc.big⟩,?_⟩
 ·rw [declB,hn,refs_all hr,decide_eq_true (by show rs.length≤8;omega),kindB,if_neg (by show ¬ (3:Int)=1;decide),if_neg (by show ¬ (3:Int)=2;decide),if_pos rfl,h1,hc.ok]
  rcases hp with rfl | rfl <;> rfl
 ·have h3:=lw_dig n
  have h4:=refs_lw (key:=tFrom) (by decide) hr hl
  have h5:=hc.wt
  have h6:lw (if pl=[] then [] else [tLB,pl,tRB])≤3:=by rcases hp with rfl | rfl <;> decide
  show lw (([tNode,nm]++((if pl=[] then [] else [tLB,pl,tRB])++([tCol,digT n]++(refsT tFrom rs++(tEq::ruleT cs)))))++[tSemi])≤_
  simp only [lw_app,lw_cons,lw_n,List.length_cons,List.length_nil];omega
theorem tok_lw:∀ {x:Toks},AllT x→x.length≤lw x
 | [],_=>Nat.le_refl _
 | t::x,h=>by
  have h1:=(tok_len (h t (List.mem_cons_self ..))).1
  have h2:=tok_lw (x:=x) fun u hu=>h u (List.mem_cons_of_mem _ hu)
  rw [lw_cons,List.length_cons];omega
theorem spW_lw:∀ x:Toks,(spW true x).length≤lw x+x.length
 | []=>Nat.le_refl _
 | t::x=>by
  have:=spW_lw x
  show([32]++(t++spW true x)).length≤_
  simp only [List.length_append,List.length_cons,List.length_nil,lw_cons];omega
structure PrS (ds:List De) (k:Nat):Prop where
 ok:∀ d∈ds,declB d=true∧BigD d
 wt:lw (ds.flatMap declT)≤k
theorem PrS.nil:PrS [] 0:=⟨fun d hd=>(by cases hd),Nat.le_refl _⟩
theorem PrS.snoc {ds:List De} {d:De} {k j:Nat} (h:PrS ds k) (hd:DeS d j):PrS (ds++[d]) (k+j):=by
 refine⟨fun x hx=>?_,?_⟩
 ·rcases List.mem_append.1 hx with hx | hx
  ·exact h.ok x hx
  ·rw [List.mem_singleton.1 hx];exact⟨hd.ok,hd.big⟩
 ·have h1:=h.wt
  have h2:=hd.wt
  rw [List.flatMap_append,lw_app,List.flatMap_cons,List.flatMap_nil,List.append_nil];omega
theorem PrS.le {ds:List De} {k k':Nat} (h:PrS ds k) (hk:k≤k'):PrS ds k':=⟨h.ok,Nat.le_trans h.wt hk⟩
theorem text_lw:∀ ds:List De,(textT ds).length≤lw (ds.flatMap declT)+cntT ds
 | []=>Nat.le_refl _
 | d::ds=>by
  have h1:=text_lw ds
  have h2:=spW_lw (declT d)
  rw [spW_tf (decl_ne d),List.length_cons] at h2
  have h3:cntT (d::ds)=(declT d).length+cntT ds:=rfl
  show((spW false (declT d)++[10])++textT ds).length≤_
  rw [List.flatMap_cons,lw_app,h3]
  simp only [List.length_append,List.length_cons,List.length_nil];omega
theorem decls_all {ds:List De} (h:∀ d∈ds,declB d=true):AllT (ds.flatMap declT):=fun t ht=>by
 obtain⟨d,hd,ht⟩:=List.mem_flatMap.1 ht
 exact(decl_toks (h d hd)).1 t ht
structure DrP (ds:List De):Prop where
 valid:validB ds=true
 big:BigP ds
 txt:(textT ds).length≤2600
 cnt:cntT ds≤1300
 lw:lw (ds.flatMap declT)≤1300
theorem PrS.fin {ds:List De} {k:Nat} (h:PrS ds k) (hl:ds.length≤30) (hk:k≤1300):DrP ds:=by
 have h1:=text_lw ds
 have h2:=h.wt
 have h3:=tok_lw (decls_all fun d hd=>(h.ok d hd).1)
 rw [flat_len] at h3
 refine⟨?_,⟨by omega,fun d hd=>(h.ok d hd).2⟩,by omega,by omega,by omega⟩
 rw [validB,decide_eq_true hl,List.all_eq_true.2 fun d hd=>(h.ok d hd).1];rfl
structure Pc where
 w:UInt8
 o:UInt8
 n:UInt8
 m:UInt8
 x:UInt8
 y:UInt8
 z:UInt8
abbrev Pc.cells (p:Pc):List PV:=[u8 p.w,u8 p.o,u8 p.n,u8 p.m,u8 p.x,u8 p.y,u8 p.z]
def wO3 (a b c:UInt8):AObj:=⟨24,false, .bx [.p (u8 a), .p (u8 b), .p (u8 c)]⟩
structure Wgt (l:List Int) (k:Nat):Prop where
 len:l.length=k
 bd:∀ x∈l,0≤x∧x≤12
theorem Wgt.snoc {l:List Int} {k:Nat} {v:Int} (h:Wgt l k) (h1:0≤v) (h2:v≤12):Wgt (l++[v]) (k+1):=by
 refine⟨by rw [List.length_append,h.len];rfl,fun x hx=>?_⟩
 rcases List.mem_append.1 hx with hx | hx
 ·exact h.bd x hx
 ·rw [List.mem_singleton.1 hx];exact⟨h1,h2⟩
theorem lw_int {n:Int} (h:0≤n∧n≤12):lw (intT n)≤2:=by
 rw [intT,if_neg (by omega),lw_cons,lw_n,digT,digN]
 split
 ·exact Nat.le_succ_of_le (Nat.le_refl _)
 ·rw [digN,if_pos (by omega)]
  exact Nat.le_refl _
theorem Wgt.nu {l:List Int} {k:Nat} (h:Wgt l k) (hk:k=2∨k=3):NuS l:=by
 have h1:=h.len
 refine⟨?_,?_⟩
 ·rw [numsB,decide_eq_true (by omega),decide_eq_true (by omega),List.all_eq_true.2]
  ·rfl
  ·intro x hx
   have:=h.bd x hx
   rw [wgtB,decide_eq_true (by omega),decide_eq_true (by omega)];rfl
 ·have:=lw_flat (f:=intT) (b:=2) (l:=l) fun x hx=>lw_int (h.bd x hx)
  rw [numsT];omega
theorem tmod_bd (n:Nat) {g:Int} (h:0≤g):0≤(n:Int).tmod (g+1)∧(n:Int).tmod (g+1)≤g:=by
 have h1:=Int.tmod_nonneg (g+1) (Int.natCast_nonneg n)
 have h2:=Int.tmod_lt_of_pos (n:Int) (show 0<g+1 by omega)
 omega
theorem weights_c (a b c:UInt8) (k:Nat) (g:Int) (hk:k=2∨k=3) (hg:0≤g∧g≤12):Pure cx 52 [.agg [u8 a,u8 b,u8 c],i64 (k:Int),i64 g] fun r=>∃ l,r=.ret [ints l]∧Wgt l k:=by
 refine pure_of_vc Tryz.func52 rfl rfl rfl ?_
 refine⟨Nat × List Int × Int,fun x=>[(1, .p (i64 (k:Int))),(3, .ptr 0 0 0),(7, .sl 1 1 0 x.2.1.length),(8, .p (i64 x.2.2)),(9, .p (i64 x.1))],fun x=>⟨2,[(1,iO x.2.1),(0,wO3 a b c)]⟩,fun x=>x.1+1≤k∧Wgt x.2.1 x.1∧0≤x.2.2∧x.2.2≤12,fun x=>k - x.1,?_,?_⟩
 ·exact⟨(0,[],g),⟨by show 0+1≤k;omega,⟨rfl,fun x hx=>by cases hx⟩,hg⟩,ent_of [] [] [(1,1)] rfl (sk) (sk) rfl⟩
 rintro⟨i,acc,g⟩ ⟨k1,k2,k3,k4⟩
 simp only [] at k1 k2 k3 k4
 clear hg
 by_cases i2:i+1=k
 ·refine⟨(i:Int),by rw [← i2];rw [show((i+1:Nat):Int) - 1=(i:Int) by omega];exact wrap_i64 (by omega) (by omega),?_⟩
  refine And.intro (fun h=>absurd (show(i:Int)<(i:Int) from h) (by omega)) (fun _=>?_)
  refine⟨by show 0+1≤1;omega,[i64 g],rfl,?_⟩
  refine⟨by show 0+acc.length≤(acc.map i64).length;simp,acc.map i64,takeAll (by simp),by show(acc.length+1) * 8≤140737488355328;have:=k2.len;omega,(acc++[g]).map i64,by simp,?_⟩
  refine end1 (ints (acc++[g])) rfl ⟨_,rfl,by show 0+(acc.length+1)≤((acc++[g]).map i64).length;simp,takeAll (by simp)⟩ ⟨_,rfl,by rw [← i2];exact k2.snoc k3 k4⟩
 refine⟨(k:Int) - 1,wrap_i64 (by omega) (by omega),?_⟩
 refine And.intro (fun _=>?_) (fun h=>absurd (show(i:Int)<(k:Int) - 1 by omega) h)
 by_cases i0:i=0
 ·subst i0
  refine⟨by show(0:Int)≤_∧_<_;exact⟨by omega,by omega⟩,?_⟩
  refine⟨.p (u8 a),ldIn1 (by kernel_rfl) rfl,?_⟩
  refine⟨((a).toNat:Int),wrap_i64 (by omega) (by have:=(a).toNat_lt;omega),?_⟩
  refine⟨g+1,wrap_i64 (by omega) (by omega),?_⟩
  have hv:=tmod_bd (a).toNat k3
  refine⟨by show ¬ g+1=0;omega,?_⟩
  generalize (((a).toNat:Int)).tmod (g+1)=v at hv ⊢
  refine⟨by show 0+1≤1;omega,[i64 v],rfl,?_⟩
  refine⟨by show 0+acc.length≤(acc.map i64).length;simp,acc.map i64,takeAll (by simp),by show(acc.length+1) * 8≤140737488355328;have:=k2.len;omega,(acc++[v]).map i64,by simp,?_⟩
  refine⟨g - v,wrap_i64 (by omega) (by omega),?_⟩
  refine⟨((1:Nat):Int),by show((1:Nat):Int)=IntKind.i64.wrap (((0:Nat):Int)+1);exact wrap_i64 (by omega) (by omega),?_⟩
  exact⟨(1,acc++[v],g - v),⟨by show 1+1≤k;omega,k2.snoc hv.1 (by omega),by show 0≤g - v;omega,by show g - v≤12;omega⟩,ent_of [] [(1,3)] [] rfl ⟨rfl,⟨rfl,rfl⟩,congrArg (fun k:Nat=>AV.sl 3 1 0 k) (snoc_len acc v).symm,rfl,rfl,trivial⟩ (sk) rfl,by show k - 1<k - 0;omega⟩
 ·obtain rfl:i=1:=by omega
  refine⟨by show(0:Int)≤_∧_<_;exact⟨by omega,by omega⟩,?_⟩
  refine⟨.p (u8 b),ldIn1 (by kernel_rfl) rfl,?_⟩
  refine⟨((b).toNat:Int),wrap_i64 (by omega) (by have:=(b).toNat_lt;omega),?_⟩
  refine⟨g+1,wrap_i64 (by omega) (by omega),?_⟩
  have hv:=tmod_bd (b).toNat k3
  refine⟨by show ¬ g+1=0;omega,?_⟩
  generalize (((b).toNat:Int)).tmod (g+1)=v at hv ⊢
  refine⟨by show 0+1≤1;omega,[i64 v],rfl,?_⟩
  refine⟨by show 0+acc.length≤(acc.map i64).length;simp,acc.map i64,takeAll (by simp),by show(acc.length+1) * 8≤140737488355328;have:=k2.len;omega,(acc++[v]).map i64,by simp,?_⟩
  refine⟨g - v,wrap_i64 (by omega) (by omega),?_⟩
  refine⟨((2:Nat):Int),by show((2:Nat):Int)=IntKind.i64.wrap (((1:Nat):Int)+1);exact wrap_i64 (by omega) (by omega),?_⟩
  exact⟨(2,acc++[v],g - v),⟨by show 2+1≤k;omega,k2.snoc hv.1 (by omega),by show 0≤g - v;omega,by show g - v≤12;omega⟩,ent_of [] [(1,3)] [] rfl ⟨rfl,⟨rfl,rfl⟩,congrArg (fun k:Nat=>AV.sl 3 1 0 k) (snoc_len acc v).symm,rfl,rfl,trivial⟩ (sk) rfl,by show k - 2<k - 1;omega⟩
set_option maxHeartbeats 40000000
structure Pt where
 kind:UInt8
 card:UInt8
 frm:UInt8
 modes:UInt8
 pl:Bool
 cases:List Pc
 x:UInt8
 y:UInt8
 z:UInt8
abbrev Pt.cells (p:Pt):List PV:=[u8 p.kind,u8 p.card,u8 p.frm,u8 p.modes, .bool p.pl, .lsts 7 (p.cases.map Pc.cells),u8 p.x,u8 p.y,u8 p.z]
structure Kn where
 nm:List UInt8
 card:Int
 pl:Bool
abbrev Kn.cells (k:Kn):List PV:=[.str k.nm,i64 k.card, .bool k.pl]
def kn0:Kn:=⟨[],0,false⟩
structure KnS (k:Kn):Prop where
 ok:nameN k.nm=true
 len:k.nm.length=1
 card:k.card=2∨k.card=3
structure RcS (rs:List Rf) (cs:List Int):Prop where
 refs:∀ r∈rs,RfS r
 nums:∀ c∈cs,c=2∨c=3
 eq:rs.length=cs.length
 len:rs.length≤2
theorem RcS.snoc {rs:List Rf} {cs:List Int} {r:Rf} {c:Int} (h:RcS rs cs) (hr:RfS r) (hc:c=2∨c=3) (hl:rs.length<2):RcS (rs++[r]) (cs++[c]):=by
 have h1:=h.eq
 refine⟨fun x hx=>?_,fun x hx=>?_,by rw [List.length_append,List.length_append];simp only [List.length_cons,List.length_nil];omega,by rw [List.length_append];simp only [List.length_cons,List.length_nil];omega⟩
 ·rcases List.mem_append.1 hx with hx | hx
  ·exact h.refs x hx
  ·rw [List.mem_singleton.1 hx];exact hr
 ·rcases List.mem_append.1 hx with hx | hx
  ·exact h.nums x hx
  ·rw [List.mem_singleton.1 hx];exact hc
def ptO (p:Pt):AObj:=⟨26,false, .bx (p.cells.map .p)⟩
def rfsO (rs:List Rf):AObj:=⟨TRef,false, .pus (rs.map Rf.cells)⟩
theorem wrap_u64 {n:Int} (h0:0≤n) (h1:n<18446744073709551616):n=IntKind.u64.wrap n:=by
 show n=n % 18446744073709551616
 omega
def RfQ (e:AE) (H':Hp):Prop:=∃ rs cs,e=.returned (.tup [.sl 0 4 0 rs.length, .sl 1 1 0 cs.length])∧H'=⟨2,[(0,rfsO rs),(1,iO cs)]⟩∧RcS rs cs
theorem kncell {l:List Kn} {k:Nat} (h:k<l.length):(l.map Kn.cells)[k]?=some (l.getD k kn0).cells:=map_at kn0 h
theorem fdiv_bd (v:Nat) (e:Int) (he:0<e) (hv:v<256):0≤(v:Int).fdiv e∧(v:Int).fdiv e≤255:=by
 have h1:=Int.fdiv_nonneg (Int.natCast_nonneg v) (Int.le_of_lt he)
 have h2:(v:Int).fdiv e≤v:=by
  rw [Int.fdiv_eq_ediv_of_nonneg _ (Int.le_of_lt he)]
  exact Int.ediv_le_self _ (Int.natCast_nonneg v)
 omega
theorem pow_pos2 (e:Nat):(0:Int)<2 ^ e:=Int.pow_pos (by decide)
theorem tmod_in {n g:Int} (h:0≤n) (hg:0<g):0≤n.tmod g∧n.tmod g<g:=⟨Int.tmod_nonneg _ h,Int.tmod_lt_of_pos _ hg⟩
theorem rfs0 {nm:List UInt8} (h:nameN nm=true) (hl:nm.length=1):RfS ⟨nm,0,[],0⟩:=⟨refB0 h,hl,Nat.zero_le _,by show(0:Int)≤9;decide⟩
theorem rfs3 {nm:List UInt8} (h:nameN nm=true) (hl:nm.length=1):RfS ⟨nm,3,[],0⟩:=⟨refB3 h,hl,Nat.zero_le _,by show(0:Int)≤9;decide⟩
theorem rfs2 {nm:List UInt8} {n:Int} (h:nameN nm=true) (hl:nm.length=1) (hn:0≤n∧n<2):RfS ⟨nm,2,[],n⟩:=⟨refB2 h (nat_of hn.1 (by omega)),hl,Nat.zero_le _,by show n≤9;omega⟩
theorem rfs1 {nm:List UInt8} {n:Int} (h:nameN nm=true) (hl:nm.length=1) (hn:0≤n∧n<2):RfS ⟨nm,1,[112],n⟩:=⟨refB1 h p_name (nat_of hn.1 (by omega)),hl,Nat.le_refl _,by show n≤9;omega⟩
abbrev otC9:OT:=(.pure 0 (.pure 1 (.pure 2 (.pure 3 (.eff 4 [] (.pure 5 (.eff 6 [] .fin .nil)) .nil)))))
theorem prefs_h (p:Pt) (l:List Kn) (hl:∀ k∈l,KnS k) (h5:l.length≤5) (g:Bool) (sz:Int) (hs:sz=1∨sz=2):HoldsG cx 29 [.p (.agg p.cells), .p (.lsts 3 (l.map Kn.cells)),vB g, .p (i64 sz)] ⟨0,[]⟩ (RfQ):=by
 refine holdsN_of_vc Tryz.func29 rfl rfl rfl ?_
 have hl':(l.map Kn.cells).length=l.length:=List.length_map ..
 refine⟨Nat × List Rf × List Int,fun x=>[(1, .p (.lsts 3 (l.map Kn.cells))),(2,vB g),(3, .p (i64 sz)),(4, .ptr 0 0 0),(10, .sl 1 4 0 x.2.1.length),(11, .sl 2 1 0 x.2.2.length),(12, .p (i64 x.1))],fun x=>⟨3,[(2,iO x.2.2),(1,rfsO x.2.1),(0,ptO p)]⟩,fun x=>x.1≤l.length∧RcS x.2.1 x.2.2,fun x=>l.length - x.1,?_,?_⟩
 ·exact⟨(0,[],[]),⟨Nat.zero_le _,⟨fun r hr=>(by cases hr),fun r hr=>(by cases hr),rfl,by decide⟩⟩,ent_of [] [] [(1,4),(2,1)] rfl (sk) (sk) rfl⟩
 rintro⟨i,rs,cs⟩ ⟨k1,k2⟩
 simp only [] at k1 k2
 by_cases hi:i<l.length
 rotate_left
 ·refine And.intro (fun h=>absurd (show(i:Int)<((l.map Kn.cells).length:Nat) from h) (by rw [hl'];omega)) (fun _=>?_)
  exact⟨[],[(0,1),(1,2)],[], .returned (.tup [.sl 0 4 0 rs.length, .sl 1 1 0 cs.length]),⟨2,[(0,rfsO rs),(1,iO cs)]⟩,rfl,sk,sk,rs,cs,rfl,rfl,k2⟩
 refine And.intro (fun _=>?_) (fun h=>absurd (show(i:Int)<((l.map Kn.cells).length:Nat) by rw [hl'];omega) h)
 by_cases h2:rs.length<2
 rotate_left
 ·refine And.intro (fun h=>absurd (show(rs.length:Int)<2 from h) (by omega)) (fun _=>?_)
  exact⟨[],[(0,1),(1,2)],[], .returned (.tup [.sl 0 4 0 rs.length, .sl 1 1 0 cs.length]),⟨2,[(0,rfsO rs),(1,iO cs)]⟩,rfl,sk,sk,rs,cs,rfl,rfl,k2⟩
 refine And.intro (fun _=>?_) (fun h=>absurd (show(rs.length:Int)<2 by omega) h)
 have hcell:=kncell hi
 have hS:=hl _ (getD_memL kn0 hi)
 generalize l.getD i kn0=kn at hcell hS
 obtain⟨nm,card,b⟩:=kn
 have hm:=p.modes.toNat_lt
 have hf:=p.frm.toNat_lt
 cases b
 ·refine⟨(i:Int),wrap_u64 (by omega) (by omega),?_⟩
  refine⟨by omega,?_⟩
  have hs1:=fdiv_bd p.frm.toNat _ (pow_pos2 (min ((i:Int).toNat) (IntKind.u8.bits))) hf
  generalize (p.frm.toNat:Int).fdiv (2 ^ (min ((i:Int).toNat) (IntKind.u8.bits)))=sf at hs1 ⊢
  refine⟨by decide,?_⟩
  by_cases hz:sf.tmod 2=0
  ·refine And.intro (fun _=>?_) (fun h=>absurd hz h)
   refine⟨((i+1:Nat):Int),by rw [Int.natCast_add];exact wrap_i64 (by omega) (by omega),?_⟩
   exact⟨(i+1,rs,cs),⟨by show i+1≤l.length;omega,k2⟩,ent_of [] [] [] rfl (sk) (sk) rfl,by show l.length - (i+1)<l.length - i;omega⟩
  refine And.intro (fun h=>absurd h hz) (fun _=>?_)
  clear hz hs1
  refine⟨_,⟨by omega,(Kn.mk nm card _).cells,hcell,rfl⟩,?_⟩
  refine⟨((2 * i:Nat):Int),by show _=IntKind.i64.wrap (2 * (i:Int));rw [Int.natCast_mul];exact wrap_i64 (by omega) (by omega),?_⟩
  refine⟨((2 * i:Nat):Int),wrap_u64 (by omega) (by omega),?_⟩
  refine⟨by omega,?_⟩
  have hs2:=fdiv_bd p.modes.toNat _ (pow_pos2 (min (((2 * i:Nat):Int).toNat) (IntKind.u8.bits))) hm
  generalize (p.modes.toNat:Int).fdiv (2 ^ (min (((2 * i:Nat):Int).toNat) (IntKind.u8.bits)))=sm at hs2 ⊢
  refine⟨sm,wrap_i64 (by omega) (by omega),?_⟩
  refine⟨by decide,?_⟩
  have hs3:=tmod_in hs2.1 (show(0:Int)<4 by decide)
  generalize sm.tmod 4=m at hs3 ⊢
  refine⟨_,⟨by omega,(Kn.mk nm card _).cells,hcell,rfl⟩,?_⟩
  refine⟨by show 0+1≤1;omega,[[.str nm,i64 0, .str [],i64 0]],rfl,?_⟩
  refine⟨by show 0+rs.length≤(rs.map Rf.cells).length;simp,rs.map Rf.cells,takeAll (by simp),by show(rs.length+1) * 48≤140737488355328;omega,(rs++[Rf.mk nm 0 [] 0]).map Rf.cells,by simp,?_⟩
  refine⟨_,⟨by omega,(Kn.mk nm card _).cells,hcell,rfl⟩,?_⟩
  refine⟨by show 0+1≤1;omega,[i64 card],rfl,?_⟩
  refine⟨by show 0+cs.length≤(cs.map i64).length;simp,cs.map i64,takeAll (by simp),by show(cs.length+1) * 8≤140737488355328;have:=k2.eq;omega,(cs++[card]).map i64,by simp,?_⟩
  refine⟨((i+1:Nat):Int),by rw [Int.natCast_add];exact wrap_i64 (by omega) (by omega),?_⟩
  exact⟨(i+1,rs++[Rf.mk nm 0 [] 0],cs++[card]),⟨by show i+1≤l.length;omega,k2.snoc (rfs0 hS.ok hS.len) hS.card h2⟩,ent_of [] [(1,5),(2,7)] [] rfl ⟨rfl,rfl,rfl,⟨rfl,rfl⟩,congrArg (fun k:Nat=>AV.sl 5 4 0 k) (snoc_len rs _).symm,congrArg (fun k:Nat=>AV.sl 7 1 0 k) (snoc_len cs card).symm,rfl,trivial⟩ (sk) rfl,by show l.length - (i+1)<l.length - i;omega⟩
 cases g
 ·refine⟨(i:Int),wrap_u64 (by omega) (by omega),?_⟩
  refine⟨by omega,?_⟩
  have hs1:=fdiv_bd p.frm.toNat _ (pow_pos2 (min ((i:Int).toNat) (IntKind.u8.bits))) hf
  generalize (p.frm.toNat:Int).fdiv (2 ^ (min ((i:Int).toNat) (IntKind.u8.bits)))=sf at hs1 ⊢
  refine⟨by decide,?_⟩
  by_cases hz:sf.tmod 2=0
  ·refine And.intro (fun _=>?_) (fun h=>absurd hz h)
   refine⟨((i+1:Nat):Int),by rw [Int.natCast_add];exact wrap_i64 (by omega) (by omega),?_⟩
   exact⟨(i+1,rs,cs),⟨by show i+1≤l.length;omega,k2⟩,ent_of [] [] [] rfl (sk) (sk) rfl,by show l.length - (i+1)<l.length - i;omega⟩
  refine And.intro (fun h=>absurd h hz) (fun _=>?_)
  clear hz hs1
  refine⟨_,⟨by omega,(Kn.mk nm card _).cells,hcell,rfl⟩,?_⟩
  refine⟨((2 * i:Nat):Int),by show _=IntKind.i64.wrap (2 * (i:Int));rw [Int.natCast_mul];exact wrap_i64 (by omega) (by omega),?_⟩
  refine⟨((2 * i:Nat):Int),wrap_u64 (by omega) (by omega),?_⟩
  refine⟨by omega,?_⟩
  have hs2:=fdiv_bd p.modes.toNat _ (pow_pos2 (min (((2 * i:Nat):Int).toNat) (IntKind.u8.bits))) hm
  generalize (p.modes.toNat:Int).fdiv (2 ^ (min (((2 * i:Nat):Int).toNat) (IntKind.u8.bits)))=sm at hs2 ⊢
  refine⟨sm,wrap_i64 (by omega) (by omega),?_⟩
  refine⟨by decide,?_⟩
  have hs3:=tmod_in hs2.1 (show(0:Int)<4 by decide)
  generalize sm.tmod 4=m at hs3 ⊢
  refine⟨_,⟨by omega,(Kn.mk nm card _).cells,hcell,rfl⟩,?_⟩
  refine And.intro (fun h3=>?_) (fun h3=>?_)
  ·refine⟨by show 0+1≤1;omega,[[.str nm,i64 3, .str [],i64 0]],rfl,?_⟩
   refine⟨by show 0+rs.length≤(rs.map Rf.cells).length;simp,rs.map Rf.cells,takeAll (by simp),by show(rs.length+1) * 48≤140737488355328;omega,(rs++[Rf.mk nm 3 [] 0]).map Rf.cells,by simp,?_⟩
   refine⟨_,⟨by omega,(Kn.mk nm card _).cells,hcell,rfl⟩,?_⟩
   refine⟨by show 0+1≤1;omega,[i64 card],rfl,?_⟩
   refine⟨by show 0+cs.length≤(cs.map i64).length;simp,cs.map i64,takeAll (by simp),by show(cs.length+1) * 8≤140737488355328;have:=k2.eq;omega,(cs++[card]).map i64,by simp,?_⟩
   refine⟨((i+1:Nat):Int),by rw [Int.natCast_add];exact wrap_i64 (by omega) (by omega),?_⟩
   exact⟨(i+1,rs++[Rf.mk nm 3 [] 0],cs++[card]),⟨by show i+1≤l.length;omega,k2.snoc (rfs3 hS.ok hS.len) hS.card h2⟩,ent_of [] [(1,5),(2,7)] [] rfl ⟨rfl,rfl,rfl,⟨rfl,rfl⟩,congrArg (fun k:Nat=>AV.sl 5 4 0 k) (snoc_len rs _).symm,congrArg (fun k:Nat=>AV.sl 7 1 0 k) (snoc_len cs card).symm,rfl,trivial⟩ (sk) rfl,by show l.length - (i+1)<l.length - i;omega⟩
  ·refine vdraw_ot otC9 (by kernel_rfl) ?_
   refine⟨by show ¬ sz=0;omega,?_⟩
   have hn:=tmod_in hs3.1 (show 0<sz by omega)
   generalize m.tmod sz=n at hn ⊢
   refine⟨by show 0+1≤1;omega,[[.str nm,i64 2, .str [],i64 n]],rfl,?_⟩
   refine⟨by show 0+rs.length≤(rs.map Rf.cells).length;simp,rs.map Rf.cells,takeAll (by simp),by show(rs.length+1) * 48≤140737488355328;omega,(rs++[Rf.mk nm 2 [] n]).map Rf.cells,by simp,?_⟩
   refine⟨_,⟨by omega,(Kn.mk nm card _).cells,hcell,rfl⟩,?_⟩
   refine⟨by show 0+1≤1;omega,[i64 card],rfl,?_⟩
   refine⟨by show 0+cs.length≤(cs.map i64).length;simp,cs.map i64,takeAll (by simp),by show(cs.length+1) * 8≤140737488355328;have:=k2.eq;omega,(cs++[card]).map i64,by simp,?_⟩
   refine⟨((i+1:Nat):Int),by rw [Int.natCast_add];exact wrap_i64 (by omega) (by omega),?_⟩
   exact⟨(i+1,rs++[Rf.mk nm 2 [] n],cs++[card]),⟨by show i+1≤l.length;omega,k2.snoc (rfs2 hS.ok hS.len ⟨hn.1,by omega⟩) hS.card h2⟩,ent_of [] [(1,5),(2,7)] [] rfl ⟨rfl,rfl,rfl,⟨rfl,rfl⟩,congrArg (fun k:Nat=>AV.sl 5 4 0 k) (snoc_len rs _).symm,congrArg (fun k:Nat=>AV.sl 7 1 0 k) (snoc_len cs card).symm,rfl,trivial⟩ (sk) rfl,by show l.length - (i+1)<l.length - i;omega⟩
 ·refine⟨(i:Int),wrap_u64 (by omega) (by omega),?_⟩
  refine⟨by omega,?_⟩
  have hs1:=fdiv_bd p.frm.toNat _ (pow_pos2 (min ((i:Int).toNat) (IntKind.u8.bits))) hf
  generalize (p.frm.toNat:Int).fdiv (2 ^ (min ((i:Int).toNat) (IntKind.u8.bits)))=sf at hs1 ⊢
  refine⟨by decide,?_⟩
  by_cases hz:sf.tmod 2=0
  ·refine And.intro (fun _=>?_) (fun h=>absurd hz h)
   refine⟨((i+1:Nat):Int),by rw [Int.natCast_add];exact wrap_i64 (by omega) (by omega),?_⟩
   exact⟨(i+1,rs,cs),⟨by show i+1≤l.length;omega,k2⟩,ent_of [] [] [] rfl (sk) (sk) rfl,by show l.length - (i+1)<l.length - i;omega⟩
  refine And.intro (fun h=>absurd h hz) (fun _=>?_)
  clear hz hs1
  refine⟨_,⟨by omega,(Kn.mk nm card _).cells,hcell,rfl⟩,?_⟩
  refine⟨((2 * i:Nat):Int),by show _=IntKind.i64.wrap (2 * (i:Int));rw [Int.natCast_mul];exact wrap_i64 (by omega) (by omega),?_⟩
  refine⟨((2 * i:Nat):Int),wrap_u64 (by omega) (by omega),?_⟩
  refine⟨by omega,?_⟩
  have hs2:=fdiv_bd p.modes.toNat _ (pow_pos2 (min (((2 * i:Nat):Int).toNat) (IntKind.u8.bits))) hm
  generalize (p.modes.toNat:Int).fdiv (2 ^ (min (((2 * i:Nat):Int).toNat) (IntKind.u8.bits)))=sm at hs2 ⊢
  refine⟨sm,wrap_i64 (by omega) (by omega),?_⟩
  refine⟨by decide,?_⟩
  have hs3:=tmod_in hs2.1 (show(0:Int)<4 by decide)
  generalize sm.tmod 4=m at hs3 ⊢
  refine⟨_,⟨by omega,(Kn.mk nm card _).cells,hcell,rfl⟩,?_⟩
  refine And.intro (fun h3=>?_) (fun h3=>?_)
  ·refine⟨by decide,?_⟩
   have hn:=tmod_in hs3.1 (show(0:Int)<2 by decide)
   generalize m.tmod 2=n at hn ⊢
   refine⟨by show 0+1≤1;omega,[[.str nm,i64 1, .str [112],i64 n]],rfl,?_⟩
   refine⟨by show 0+rs.length≤(rs.map Rf.cells).length;simp,rs.map Rf.cells,takeAll (by simp),by show(rs.length+1) * 48≤140737488355328;omega,(rs++[Rf.mk nm 1 [112] n]).map Rf.cells,by simp,?_⟩
   refine⟨_,⟨by omega,(Kn.mk nm card _).cells,hcell,rfl⟩,?_⟩
   refine⟨by show 0+1≤1;omega,[i64 card],rfl,?_⟩
   refine⟨by show 0+cs.length≤(cs.map i64).length;simp,cs.map i64,takeAll (by simp),by show(cs.length+1) * 8≤140737488355328;have:=k2.eq;omega,(cs++[card]).map i64,by simp,?_⟩
   refine⟨((i+1:Nat):Int),by rw [Int.natCast_add];exact wrap_i64 (by omega) (by omega),?_⟩
   exact⟨(i+1,rs++[Rf.mk nm 1 [112] n],cs++[card]),⟨by show i+1≤l.length;omega,k2.snoc (rfs1 hS.ok hS.len hn) hS.card h2⟩,ent_of [] [(1,5),(2,7)] [] rfl ⟨rfl,rfl,rfl,⟨rfl,rfl⟩,congrArg (fun k:Nat=>AV.sl 5 4 0 k) (snoc_len rs _).symm,congrArg (fun k:Nat=>AV.sl 7 1 0 k) (snoc_len cs card).symm,rfl,trivial⟩ (sk) rfl,by show l.length - (i+1)<l.length - i;omega⟩
  ·have h3:¬ m<3:=h3
   refine And.intro (fun h4=>?_) (fun h4=>absurd (show m=3 by omega) h4)
   refine⟨by show 0+1≤1;omega,[[.str nm,i64 3, .str [],i64 0]],rfl,?_⟩
   refine⟨by show 0+rs.length≤(rs.map Rf.cells).length;simp,rs.map Rf.cells,takeAll (by simp),by show(rs.length+1) * 48≤140737488355328;omega,(rs++[Rf.mk nm 3 [] 0]).map Rf.cells,by simp,?_⟩
   refine⟨_,⟨by omega,(Kn.mk nm card _).cells,hcell,rfl⟩,?_⟩
   refine⟨by show 0+1≤1;omega,[i64 card],rfl,?_⟩
   refine⟨by show 0+cs.length≤(cs.map i64).length;simp,cs.map i64,takeAll (by simp),by show(cs.length+1) * 8≤140737488355328;have:=k2.eq;omega,(cs++[card]).map i64,by simp,?_⟩
   refine⟨((i+1:Nat):Int),by rw [Int.natCast_add];exact wrap_i64 (by omega) (by omega),?_⟩
   exact⟨(i+1,rs++[Rf.mk nm 3 [] 0],cs++[card]),⟨by show i+1≤l.length;omega,k2.snoc (rfs3 hS.ok hS.len) hS.card h2⟩,ent_of [] [(1,5),(2,7)] [] rfl ⟨rfl,rfl,rfl,⟨rfl,rfl⟩,congrArg (fun k:Nat=>AV.sl 5 4 0 k) (snoc_len rs _).symm,congrArg (fun k:Nat=>AV.sl 7 1 0 k) (snoc_len cs card).symm,rfl,trivial⟩ (sk) rfl,by show l.length - (i+1)<l.length - i;omega⟩
abbrev otD2:OT:=(.pure 0 (.pure 1 (.pure 2 (.pure 3 (.pure 4 (.pure 5 (.pure 6 (.pure 7 (.pure 8 (.pure 9 (.pure 10 (.pure 11 (.pure 12 (.pure 13 (.pure 14 (.pure 15 (.pure 16 (.pure 17 (.eff 18 [15,11,10,8,3,1] (.eff 19 [] .fin .nil) .nil)))))))))))))))))))
abbrev otD4:OT:=(.pure 0 (.pure 1 (.pure 2 (.pure 3 (.pure 4 (.pure 5 (.pure 6 (.pure 7 (.pure 8 (.pure 9 (.pure 10 (.pure 11 (.pure 12 (.pure 13 (.pure 14 (.pure 15 (.pure 16 (.pure 17 (.pure 18 (.pure 19 (.pure 20 (.pure 21 (.pure 22 (.eff 23 [] .fin .nil))))))))))))))))))))))))
abbrev otD6:OT:=(.pure 0 (.pure 1 (.pure 2 (.pure 3 (.pure 4 (.pure 5 (.pure 6 (.eff 7 [3,2] (.pure 8 (.eff 9 [3,2] (.pure 10 (.eff 11 [] .fin .nil)) .nil)) .nil))))))))
abbrev otD13:OT:=(.pure 0 (.pure 1 (.pure 2 (.pure 3 (.pure 4 (.pure 5 (.pure 6 (.eff 7 [4,1] (.pure 8 (.eff 9 [4] (.pure 10 (.eff 11 [] .fin .nil)) .nil)) .nil))))))))
abbrev otD14:OT:=(.pure 0 (.pure 1 (.pure 2 (.pure 3 (.pure 4 (.pure 5 (.pure 6 (.pure 7 (.pure 8 (.eff 9 [5,3,1] (.eff 10 [3,1] (.pure 11 (.eff 12 [] .fin .nil)) .nil) .nil))))))))))
def LfQ (r:PEnd):Prop:=∃ (y:PV) (c:Cd),r=.ret [y]∧NilD y c.pv∧∀ d,CdS (d+1) c 1 18
def CdQ (r:PEnd):Prop:=∃ (y:PV) (c:Cd) (n:Nat),r=.ret [y]∧NilD y c.pv∧n≤3∧CdS 8 c n 43
structure RcA (rs:List Rf) (cs:List Int):Prop where
 ok:RcS rs cs
 pos:1≤rs.length
theorem set01:∀ j,j<2→setB (([0,1]:List Int).drop j)=true∧(([0,1]:List Int).drop j).length≤2∧∀ a∈([0,1]:List Int).drop j,a≤9:=by decide
theorem icellC {l:List Int} {k:Nat} (h:k<l.length):(l.map i64)[k]?=some (i64 (l.getD k 0)):=map_at 0 h
theorem nil_op (op:Int) {ys:List (List PV)} {l:List Cd} (h:NilDLL ys (cellsL l)):NilD (.agg [i64 op,i64 0,i64 0,i64 0, .str [],i64 0, .str [],i64 0, .nils, .lsts 10 ys]) (Cd.mk op 0 0 0 rf0 [] l).pv:=by
 show NilD _ (.agg [i64 op,i64 0,i64 0,i64 0, .str [],i64 0, .str [],i64 0, .lst [], .lsts 10 (cellsL l)])
 simp only [NilD,NilDL]
 exact⟨_,rfl,_,_,rfl,rfl,_,_,rfl,rfl,_,_,rfl,rfl,_,_,rfl,rfl,_,_,rfl,rfl,_,_,rfl,rfl,_,_,rfl,rfl,_,_,rfl,rfl,_,_,rfl, .inr (.inl rfl),_,_,rfl,⟨_,rfl,h⟩,rfl⟩
theorem nil_agg {a b:List PV} (h:NilD (.agg a) (.agg b)):NilDL a b:=by
 simp only [NilD] at h
 obtain⟨z,e,h⟩:=h
 injection e with e
 subst e
 exact h
theorem nil_ll1 {a:List PV} {c:Cd} (h:NilD (.agg a) c.pv):NilDLL [a] (cellsL [c]):=by
 simp only [NilDLL,cellsL]
 exact⟨_,_,rfl,nil_agg h,rfl⟩
theorem nil_ll2 {a b:List PV} {c d:Cd} (h:NilD (.agg a) c.pv) (h2:NilD (.agg b) d.pv):NilDLL [a,b] (cellsL [c,d]):=by
 simp only [NilDLL,cellsL]
 exact⟨_,_,rfl,nil_agg h,_,_,rfl,nil_agg h2,rfl⟩
theorem wrap_u8' {n:Nat} (h:n<256):(n:Int)=IntKind.u8.wrap (n:Int):=by
 show(n:Int)=(n:Int) % 256
 omega
theorem u8_next (w:UInt8):((UInt8.ofNat (w.toNat+1)).toNat:Int)=IntKind.u8.wrap ((w.toNat:Int)+1):=by
 show((UInt8.ofNat (w.toNat+1)).toNat:Int)=((w.toNat:Int)+1) % 256
 rw [UInt8.toNat_ofNat']
 omega
theorem u8_half (n:UInt8):((UInt8.ofNat (n.toNat / 2)).toNat:Int)=IntKind.u8.wrap ((n.toNat:Int).tdiv 2):=by
 have hn:=n.toNat_lt
 rw [show(n.toNat:Int).tdiv 2=((n.toNat / 2:Nat):Int) from rfl,← wrap_u8' (by omega),UInt8.toNat_ofNat']
 omega
theorem cond_leaf' (p:Pc) (rs:List Rf) (cs:List Int) (h:RcA rs cs) (hm3:3≤p.m.toNat % 8):Pure cx 51 [.agg p.cells,rfl_ rs,ints cs] LfQ:=by
 refine pure_of_vc Tryz.func51 rfl rfl rfl ?_
 obtain⟨w,o,n,m,x,y,z⟩:=p
 simp only [] at hm3
 have hl':(rs.map Rf.cells).length=rs.length:=List.length_map ..
 have hpos:=h.pos
 have hk:(w.toNat:Int).tmod ((rs.map Rf.cells).length:Nat)=((w.toNat % rs.length:Nat):Int):=by rw [hl'];rfl
 have hkl:w.toNat % rs.length<rs.length:=Nat.mod_lt _ (by omega)
 generalize w.toNat % rs.length=k at hk hkl
 have hcell:=rcell hkl
 have hkc:k<cs.length:=by have:=h.ok.eq;omega
 have ccell:=icellC hkc
 have hrf:=h.ok.refs _ (getD_memL rf0 hkl)
 have hcd:=h.ok.nums _ (getD_memL 0 hkc)
 generalize rs.getD k rf0=rf at hcell hrf
 generalize cs.getD k 0=cd at ccell hcd
 obtain⟨nm,md,pl,rn⟩:=rf
 have hw:=w.toNat_lt
 have ho:=o.toNat_lt
 have hn:=n.toNat_lt
 have hm:=m.toNat_lt
 have eo:((o.toNat % 4:Nat):Int)=IntKind.i64.wrap ((o.toNat:Int).tmod 4):=by
  rw [show(o.toNat:Int).tmod 4=((o.toNat % 4:Nat):Int) from rfl];exact wrap_i64 (by omega) (by omega)
 have en:(n.toNat:Int)=IntKind.i64.wrap (n.toNat:Int):=wrap_i64 (by omega) (by omega)
 have hv0:=tmod_in (Int.natCast_nonneg n.toNat) (show 0<cd by omega)
 have hv:=hv0
 have e8:(m.toNat:Int).tmod 8=((m.toNat % 8:Nat):Int):=rfl
 have f8:(o.toNat:Int).tmod 8=((o.toNat % 8:Nat):Int):=rfl
 have hok:=hrf.ok
 refine⟨(w.toNat:Int),wrap_i64 (by omega) (by omega),?_⟩
 refine⟨by show ¬ (((rs.map Rf.cells).length:Nat):Int)=0;rw [hl'];omega,?_⟩
 generalize (w.toNat:Int).tmod ((rs.map Rf.cells).length:Nat)=kk at hk ⊢
 subst hk
 refine vdraw_ot otD2 (by kernel_rfl) ?_
 refine⟨by decide,?_⟩
 refine⟨((o.toNat % 4:Nat):Int),eo,?_⟩
 refine⟨1+((o.toNat % 4:Nat):Int),wrap_i64 (by omega) (by omega),?_⟩
 refine⟨_,⟨by omega,(⟨nm,md,pl,rn⟩:Rf).cells,hcell,rfl⟩,?_⟩
 refine⟨(n.toNat:Int),en,?_⟩
 refine⟨_,⟨by omega,i64 cd,ccell,rfl⟩,?_⟩
 refine⟨by show ¬ cd=0;omega,?_⟩
 generalize (n.toNat:Int).tmod cd=v at hv ⊢
 refine⟨⟨rfl,congrArg (fun z:Int=>AV.p (.int .i64 z)) en,rfl,rfl,congrArg (fun z:Int=>AV.p (.int .i64 z)) eo,rfl,trivial⟩,?_⟩
 refine⟨_,⟨by omega,(⟨nm,md,pl,rn⟩:Rf).cells,hcell,rfl⟩,?_⟩
 refine And.intro (fun h3=>?_) (fun h3=>?_)
 ·have h3:md=3:=h3
  refine vdraw_ot otD4 (by kernel_rfl) ?_
  refine⟨_,⟨by omega,(⟨nm,md,pl,rn⟩:Rf).cells,hcell,rfl⟩,?_⟩
  refine⟨(n.toNat:Int),en,?_⟩
  refine⟨_,⟨by omega,i64 cd,ccell,rfl⟩,?_⟩
  refine⟨by show ¬ cd=0;omega,?_⟩
  clear hv
  have hv:=hv0
  generalize (n.toNat:Int).tmod cd=v at hv ⊢
  refine⟨by decide,?_⟩
  refine⟨((o.toNat % 4:Nat):Int),eo,?_⟩
  refine⟨1+((o.toNat % 4:Nat):Int),wrap_i64 (by omega) (by omega),?_⟩
  refine⟨by decide,((n.toNat / 8:Nat):Int),wrap_u8' (by omega),?_⟩
  refine⟨((n.toNat / 8:Nat):Int),wrap_i64 (by omega) (by omega),?_⟩
  refine⟨by decide,?_⟩
  have hq:=tmod_in (Int.natCast_nonneg (n.toNat / 8)) (show(0:Int)<4 by decide)
  generalize ((n.toNat / 8:Nat):Int).tmod 4=q at hq ⊢
  have hC1:∀ d,CdS (d+1) (.mk 6 q (1+((o.toNat % 4:Nat):Int)) v ⟨nm,md,pl,rn⟩ [] []) 1 18:=CdS.leaf (by decide) (by decide) (by decide) (by rw [leafB,if_neg (by decide),if_neg (by decide),if_pos rfl,hok,decide_eq_true h3,nat_of hq.1 (by omega),nat_of hv.1 (by omega),decide_eq_true (by omega),decide_eq_true (by omega)];rfl) hrf (by omega) (by omega) ⟨by decide,fun a ha=>by cases ha⟩
  refine⟨by decide,?_⟩
  refine And.intro (fun h=>absurd (show(m.toNat:Int).tmod 8=0 from h) (by rw [e8];omega)) (fun _=>?_)
  refine And.intro (fun h=>absurd (show(m.toNat:Int).tmod 8=1 from h) (by rw [e8];omega)) (fun _=>?_)
  refine And.intro (fun h=>absurd (show(m.toNat:Int).tmod 8=2 from h) (by rw [e8];omega)) (fun _=>?_)
  refine end1 (.agg [i64 6,i64 q,i64 (1+((o.toNat % 4:Nat):Int)),i64 v, .str nm,i64 md, .str pl,i64 rn, .nils, .nils]) rfl rfl ?_
  exact⟨_, .mk 6 q (1+((o.toNat % 4:Nat):Int)) v ⟨nm,md,pl,rn⟩ [] [],rfl,nil_leaf2 6 q (1+((o.toNat % 4:Nat):Int)) v ⟨nm,md,pl,rn⟩,hC1⟩
 ·refine⟨by decide,?_⟩
  by_cases h6:5<o.toNat % 8
  rotate_left
  ·refine And.intro (fun h=>absurd (show(5:Int)<(o.toNat:Int).tmod 8 from h) (by rw [f8];omega)) (fun _=>?_)
   have hC2:∀ d,CdS (d+1) (.mk (1+((o.toNat % 4:Nat):Int)) v 0 0 ⟨nm,md,pl,rn⟩ [] []) 1 18:=CdS.leaf (by omega) (by omega) (by omega) (leafB1 (by omega) hok (nat_of hv.1 (by omega))) hrf (by omega) (by decide) ⟨by decide,fun a ha=>by cases ha⟩
   refine⟨by decide,?_⟩
   refine And.intro (fun h=>absurd (show(m.toNat:Int).tmod 8=0 from h) (by rw [e8];omega)) (fun _=>?_)
   refine And.intro (fun h=>absurd (show(m.toNat:Int).tmod 8=1 from h) (by rw [e8];omega)) (fun _=>?_)
   refine And.intro (fun h=>absurd (show(m.toNat:Int).tmod 8=2 from h) (by rw [e8];omega)) (fun _=>?_)
   refine end1 (.agg [i64 (1+((o.toNat % 4:Nat):Int)),i64 v,i64 0,i64 0, .str nm,i64 md, .str pl,i64 rn, .nils, .nils]) rfl rfl ?_
   exact⟨_, .mk (1+((o.toNat % 4:Nat):Int)) v 0 0 ⟨nm,md,pl,rn⟩ [] [],rfl,nil_leaf2 (1+((o.toNat % 4:Nat):Int)) v 0 0 ⟨nm,md,pl,rn⟩,hC2⟩
  refine And.intro (fun _=>?_) (fun h=>absurd (show(5:Int)<(o.toNat:Int).tmod 8 by rw [f8];omega) h)
  refine vdraw_ot otD6 (by kernel_rfl) ?_
  refine⟨(n.toNat:Int),en,?_⟩
  refine⟨by decide,?_⟩
  have hj:(n.toNat:Int).tmod 2=((n.toNat % 2:Nat):Int):=rfl
  have hj2:n.toNat % 2<2:=Nat.mod_lt _ (by decide)
  generalize n.toNat % 2=j at hj hj2
  generalize (n.toNat:Int).tmod 2=jj at hj ⊢
  subst hj
  have s01:=set01 j hj2
  refine⟨by show(0:Int)≤((j:Nat):Int)∧((j:Nat):Int)≤2;omega,?_⟩
  refine⟨⟨congrArg (fun z:Int=>AV.p (.int .i64 z)) en,rfl,trivial⟩,?_⟩
  refine⟨⟨congrArg (fun z:Int=>AV.p (.int .i64 z)) en,rfl,trivial⟩,?_⟩
  have hC3:∀ d,CdS (d+1) (.mk 5 0 0 0 ⟨nm,md,pl,rn⟩ (([0,1]:List Int).drop j) []) 1 18:=CdS.leaf (by decide) (by decide) (by decide) (leafB5 hok s01.1) hrf (by decide) (by decide) s01.2
  refine⟨by decide,?_⟩
  refine And.intro (fun h=>absurd (show(m.toNat:Int).tmod 8=0 from h) (by rw [e8];omega)) (fun _=>?_)
  refine And.intro (fun h=>absurd (show(m.toNat:Int).tmod 8=1 from h) (by rw [e8];omega)) (fun _=>?_)
  refine And.intro (fun h=>absurd (show(m.toNat:Int).tmod 8=2 from h) (by rw [e8];omega)) (fun _=>?_)
  refine end1 (.agg [i64 5,i64 0,i64 0,i64 0, .str nm,i64 md, .str pl,i64 rn, .lst ((([0,1]:List Int).map i64).drop j), .nils]) rfl rfl ?_
  exact⟨_, .mk 5 0 0 0 ⟨nm,md,pl,rn⟩ (([0,1]:List Int).drop j) [],rfl,nil_leafD ⟨nm,md,pl,rn⟩ [0,1] j,hC3⟩
theorem cond_leaf (p:Pc) (rs:List Rf) (cs:List Int) (h:RcA rs cs) (hm3:3≤p.m.toNat % 8):Pure cx 51 [.agg p.cells,rfl_ rs,ints cs] fun r=>∃ c:Cd,r=.ret [c.pv]∧∀ d,CdS (d+1) c 1 18:=
 (cond_leaf' p rs cs h hm3).weak fun r hr=>by
  obtain⟨y,c,rfl,h1,h2⟩:=hr
  exact⟨.ret [c.pv],⟨_,rfl,_,_,rfl,h1,rfl⟩,c,rfl,h2⟩
theorem cond_c' (p:Pc) (rs:List Rf) (cs:List Int) (h:RcA rs cs):Pure cx 51 [.agg p.cells,rfl_ rs,ints cs] CdQ:=by
 refine pure_of_vc Tryz.func51 rfl rfl rfl ?_
 obtain⟨w,o,n,m,x,y,z⟩:=p
 have hl':(rs.map Rf.cells).length=rs.length:=List.length_map ..
 have hpos:=h.pos
 have hk:(w.toNat:Int).tmod ((rs.map Rf.cells).length:Nat)=((w.toNat % rs.length:Nat):Int):=by rw [hl'];rfl
 have hkl:w.toNat % rs.length<rs.length:=Nat.mod_lt _ (by omega)
 generalize w.toNat % rs.length=k at hk hkl
 have hcell:=rcell hkl
 have hkc:k<cs.length:=by have:=h.ok.eq;omega
 have ccell:=icellC hkc
 have hrf:=h.ok.refs _ (getD_memL rf0 hkl)
 have hcd:=h.ok.nums _ (getD_memL 0 hkc)
 generalize rs.getD k rf0=rf at hcell hrf
 generalize cs.getD k 0=cd at ccell hcd
 obtain⟨nm,md,pl,rn⟩:=rf
 have hw:=w.toNat_lt
 have ho:=o.toNat_lt
 have hn:=n.toNat_lt
 have hm:=m.toNat_lt
 have eo:((o.toNat % 4:Nat):Int)=IntKind.i64.wrap ((o.toNat:Int).tmod 4):=by
  rw [show(o.toNat:Int).tmod 4=((o.toNat % 4:Nat):Int) from rfl];exact wrap_i64 (by omega) (by omega)
 have en:(n.toNat:Int)=IntKind.i64.wrap (n.toNat:Int):=wrap_i64 (by omega) (by omega)
 have hv0:=tmod_in (Int.natCast_nonneg n.toNat) (show 0<cd by omega)
 have hv:=hv0
 have e8:(m.toNat:Int).tmod 8=((m.toNat % 8:Nat):Int):=rfl
 have f8:(o.toNat:Int).tmod 8=((o.toNat % 8:Nat):Int):=rfl
 have hok:=hrf.ok
 refine⟨(w.toNat:Int),wrap_i64 (by omega) (by omega),?_⟩
 refine⟨by show ¬ (((rs.map Rf.cells).length:Nat):Int)=0;rw [hl'];omega,?_⟩
 generalize (w.toNat:Int).tmod ((rs.map Rf.cells).length:Nat)=kk at hk ⊢
 subst hk
 refine vdraw_ot otD2 (by kernel_rfl) ?_
 refine⟨by decide,?_⟩
 refine⟨((o.toNat % 4:Nat):Int),eo,?_⟩
 refine⟨1+((o.toNat % 4:Nat):Int),wrap_i64 (by omega) (by omega),?_⟩
 refine⟨_,⟨by omega,(⟨nm,md,pl,rn⟩:Rf).cells,hcell,rfl⟩,?_⟩
 refine⟨(n.toNat:Int),en,?_⟩
 refine⟨_,⟨by omega,i64 cd,ccell,rfl⟩,?_⟩
 refine⟨by show ¬ cd=0;omega,?_⟩
 generalize (n.toNat:Int).tmod cd=v at hv ⊢
 refine⟨⟨rfl,congrArg (fun z:Int=>AV.p (.int .i64 z)) en,rfl,rfl,congrArg (fun z:Int=>AV.p (.int .i64 z)) eo,rfl,trivial⟩,?_⟩
 refine⟨_,⟨by omega,(⟨nm,md,pl,rn⟩:Rf).cells,hcell,rfl⟩,?_⟩
 refine And.intro (fun h3=>?_) (fun h3=>?_)
 ·have h3:md=3:=h3
  refine vdraw_ot otD4 (by kernel_rfl) ?_
  refine⟨_,⟨by omega,(⟨nm,md,pl,rn⟩:Rf).cells,hcell,rfl⟩,?_⟩
  refine⟨(n.toNat:Int),en,?_⟩
  refine⟨_,⟨by omega,i64 cd,ccell,rfl⟩,?_⟩
  refine⟨by show ¬ cd=0;omega,?_⟩
  clear hv
  have hv:=hv0
  generalize (n.toNat:Int).tmod cd=v at hv ⊢
  refine⟨by decide,?_⟩
  refine⟨((o.toNat % 4:Nat):Int),eo,?_⟩
  refine⟨1+((o.toNat % 4:Nat):Int),wrap_i64 (by omega) (by omega),?_⟩
  refine⟨by decide,((n.toNat / 8:Nat):Int),wrap_u8' (by omega),?_⟩
  refine⟨((n.toNat / 8:Nat):Int),wrap_i64 (by omega) (by omega),?_⟩
  refine⟨by decide,?_⟩
  have hq:=tmod_in (Int.natCast_nonneg (n.toNat / 8)) (show(0:Int)<4 by decide)
  generalize ((n.toNat / 8:Nat):Int).tmod 4=q at hq ⊢
  have hC1:∀ d,CdS (d+1) (.mk 6 q (1+((o.toNat % 4:Nat):Int)) v ⟨nm,md,pl,rn⟩ [] []) 1 18:=CdS.leaf (by decide) (by decide) (by decide) (by rw [leafB,if_neg (by decide),if_neg (by decide),if_pos rfl,hok,decide_eq_true h3,nat_of hq.1 (by omega),nat_of hv.1 (by omega),decide_eq_true (by omega),decide_eq_true (by omega)];rfl) hrf (by omega) (by omega) ⟨by decide,fun a ha=>by cases ha⟩
  refine⟨by decide,?_⟩
  by_cases m0:m.toNat % 8=0
  ·refine And.intro (fun _=>?_) (fun h=>absurd (show(m.toNat:Int).tmod 8=0 by rw [e8];omega) h)
   refine end1 (.agg [i64 7,i64 0,i64 0,i64 0, .str [],i64 0, .str [],i64 0, .nils, .lsts 10 [[i64 6,i64 q,i64 (1+((o.toNat % 4:Nat):Int)),i64 v, .str nm,i64 md, .str pl,i64 rn, .nils, .nils]]]) rfl ⟨_,rfl,_,_,rfl,rfl,_,_,rfl,rfl,_,_,rfl,rfl,_,_,rfl,rfl,_,_,rfl,rfl,_,_,rfl,rfl,_,_,rfl,rfl,_,_,rfl,rfl,_,_,rfl, .inl rfl,_,_,rfl,⟨_,rfl,Nat.le_refl _,rfl⟩,rfl⟩ ?_
   exact⟨_, .mk 7 0 0 0 rf0 [] [.mk 6 q (1+((o.toNat % 4:Nat):Int)) v ⟨nm,md,pl,rn⟩ [] []],2,rfl,nil_op 7 (nil_ll1 (nil_leaf2 6 q (1+((o.toNat % 4:Nat):Int)) v ⟨nm,md,pl,rn⟩)),by decide,(hC1 6).neg.le (by decide)⟩
  refine And.intro (fun h=>absurd (show(m.toNat:Int).tmod 8=0 from h) (by rw [e8];omega)) (fun _=>?_)
  by_cases m12:m.toNat % 8=1∨m.toNat % 8=2
  rotate_left
  ·refine And.intro (fun h=>absurd (show(m.toNat:Int).tmod 8=1 from h) (by rw [e8];omega)) (fun _=>?_)
   refine And.intro (fun h=>absurd (show(m.toNat:Int).tmod 8=2 from h) (by rw [e8];omega)) (fun _=>?_)
   refine end1 (.agg [i64 6,i64 q,i64 (1+((o.toNat % 4:Nat):Int)),i64 v, .str nm,i64 md, .str pl,i64 rn, .nils, .nils]) rfl rfl ?_
   exact⟨_, .mk 6 q (1+((o.toNat % 4:Nat):Int)) v ⟨nm,md,pl,rn⟩ [] [],1,rfl,nil_leaf2 6 q (1+((o.toNat % 4:Nat):Int)) v ⟨nm,md,pl,rn⟩,by decide,(hC1 7).le (by decide)⟩
  by_cases m1:m.toNat % 8=1
  ·refine And.intro (fun _=>?_) (fun h=>absurd (show(m.toNat:Int).tmod 8=1 by rw [e8];omega) h)
   refine vdraw_ot otD13 (by kernel_rfl) ?_
   refine⟨_,u8_next w,?_⟩
   refine⟨by decide,_,u8_half n,?_⟩
   refine⟨⟨rfl,rfl,trivial⟩,?_⟩
   refine⟨⟨rfl,trivial⟩,?_⟩
   refine vdraw_ot otD14 (by kernel_rfl) ?_
   refine⟨by decide,?_⟩
   have e2:((m.toNat % 2:Nat):Int)=IntKind.i64.wrap ((m.toNat:Int).tmod 2):=by
    rw [show(m.toNat:Int).tmod 2=((m.toNat % 2:Nat):Int) from rfl];exact wrap_i64 (by omega) (by omega)
   refine⟨((m.toNat % 2:Nat):Int),e2,?_⟩
   refine⟨8+((m.toNat % 2:Nat):Int),wrap_i64 (by omega) (by omega),?_⟩
   refine(cond_leaf ⟨UInt8.ofNat (w.toNat+1),o,UInt8.ofNat (n.toNat / 2),7,x,y,z⟩ rs cs h (by show 3≤(7:UInt8).toNat % 8;decide)).at fun r hr=>?_
   obtain⟨⟨ao,an,ar,av,af,as',aa⟩,rfl,hc2⟩:=hr
   refine⟨⟨rfl,congrArg (fun z:Int=>AV.p (.int .i64 z)) e2,rfl,trivial⟩,?_⟩
   refine⟨⟨congrArg (fun z:Int=>AV.p (.int .i64 z)) e2,rfl,trivial⟩,?_⟩
   refine end1 (.agg [i64 (8+((m.toNat % 2:Nat):Int)),i64 0,i64 0,i64 0, .str [],i64 0, .str [],i64 0, .nils, .lsts 10 [[i64 6,i64 q,i64 (1+((o.toNat % 4:Nat):Int)),i64 v, .str nm,i64 md, .str pl,i64 rn, .nils, .nils],(Cd.mk ao an ar av af as' aa).cells]]) rfl ⟨_,rfl,_,_,rfl,rfl,_,_,rfl,rfl,_,_,rfl,rfl,_,_,rfl,rfl,_,_,rfl,rfl,_,_,rfl,rfl,_,_,rfl,rfl,_,_,rfl,rfl,_,_,rfl, .inl rfl,_,_,rfl,⟨_,rfl,Nat.le_refl _,rfl⟩,rfl⟩ ?_
   exact⟨_, .mk (8+((m.toNat % 2:Nat):Int)) 0 0 0 rf0 [] [.mk 6 q (1+((o.toNat % 4:Nat):Int)) v ⟨nm,md,pl,rn⟩ [] [], .mk ao an ar av af as' aa],3,rfl,nil_op _ (nil_ll2 (nil_leaf2 6 q (1+((o.toNat % 4:Nat):Int)) v ⟨nm,md,pl,rn⟩) (NilD.refl _)),by decide,CdS.two (by omega) (hC1 6) (hc2 6)⟩
  ·refine And.intro (fun h=>absurd (show(m.toNat:Int).tmod 8=1 from h) (by rw [e8];omega)) (fun _=>?_)
   refine And.intro (fun _=>?_) (fun h=>absurd (show(m.toNat:Int).tmod 8=2 by rw [e8];omega) h)
   refine vdraw_ot otD13 (by kernel_rfl) ?_
   refine⟨_,u8_next w,?_⟩
   refine⟨by decide,_,u8_half n,?_⟩
   refine⟨⟨rfl,rfl,trivial⟩,?_⟩
   refine⟨⟨rfl,trivial⟩,?_⟩
   refine vdraw_ot otD14 (by kernel_rfl) ?_
   refine⟨by decide,?_⟩
   have e2:((m.toNat % 2:Nat):Int)=IntKind.i64.wrap ((m.toNat:Int).tmod 2):=by
    rw [show(m.toNat:Int).tmod 2=((m.toNat % 2:Nat):Int) from rfl];exact wrap_i64 (by omega) (by omega)
   refine⟨((m.toNat % 2:Nat):Int),e2,?_⟩
   refine⟨8+((m.toNat % 2:Nat):Int),wrap_i64 (by omega) (by omega),?_⟩
   refine(cond_leaf ⟨UInt8.ofNat (w.toNat+1),o,UInt8.ofNat (n.toNat / 2),7,x,y,z⟩ rs cs h (by show 3≤(7:UInt8).toNat % 8;decide)).at fun r hr=>?_
   obtain⟨⟨ao,an,ar,av,af,as',aa⟩,rfl,hc2⟩:=hr
   refine⟨⟨rfl,congrArg (fun z:Int=>AV.p (.int .i64 z)) e2,rfl,trivial⟩,?_⟩
   refine⟨⟨congrArg (fun z:Int=>AV.p (.int .i64 z)) e2,rfl,trivial⟩,?_⟩
   refine end1 (.agg [i64 (8+((m.toNat % 2:Nat):Int)),i64 0,i64 0,i64 0, .str [],i64 0, .str [],i64 0, .nils, .lsts 10 [[i64 6,i64 q,i64 (1+((o.toNat % 4:Nat):Int)),i64 v, .str nm,i64 md, .str pl,i64 rn, .nils, .nils],(Cd.mk ao an ar av af as' aa).cells]]) rfl ⟨_,rfl,_,_,rfl,rfl,_,_,rfl,rfl,_,_,rfl,rfl,_,_,rfl,rfl,_,_,rfl,rfl,_,_,rfl,rfl,_,_,rfl,rfl,_,_,rfl,rfl,_,_,rfl, .inl rfl,_,_,rfl,⟨_,rfl,Nat.le_refl _,rfl⟩,rfl⟩ ?_
   exact⟨_, .mk (8+((m.toNat % 2:Nat):Int)) 0 0 0 rf0 [] [.mk 6 q (1+((o.toNat % 4:Nat):Int)) v ⟨nm,md,pl,rn⟩ [] [], .mk ao an ar av af as' aa],3,rfl,nil_op _ (nil_ll2 (nil_leaf2 6 q (1+((o.toNat % 4:Nat):Int)) v ⟨nm,md,pl,rn⟩) (NilD.refl _)),by decide,CdS.two (by omega) (hC1 6) (hc2 6)⟩
 ·refine⟨by decide,?_⟩
  by_cases h6:5<o.toNat % 8
  rotate_left
  ·refine And.intro (fun h=>absurd (show(5:Int)<(o.toNat:Int).tmod 8 from h) (by rw [f8];omega)) (fun _=>?_)
   have hC2:∀ d,CdS (d+1) (.mk (1+((o.toNat % 4:Nat):Int)) v 0 0 ⟨nm,md,pl,rn⟩ [] []) 1 18:=CdS.leaf (by omega) (by omega) (by omega) (leafB1 (by omega) hok (nat_of hv.1 (by omega))) hrf (by omega) (by decide) ⟨by decide,fun a ha=>by cases ha⟩
   refine⟨by decide,?_⟩
   by_cases m0:m.toNat % 8=0
   ·refine And.intro (fun _=>?_) (fun h=>absurd (show(m.toNat:Int).tmod 8=0 by rw [e8];omega) h)
    refine end1 (.agg [i64 7,i64 0,i64 0,i64 0, .str [],i64 0, .str [],i64 0, .nils, .lsts 10 [[i64 (1+((o.toNat % 4:Nat):Int)),i64 v,i64 0,i64 0, .str nm,i64 md, .str pl,i64 rn, .nils, .nils]]]) rfl ⟨_,rfl,_,_,rfl,rfl,_,_,rfl,rfl,_,_,rfl,rfl,_,_,rfl,rfl,_,_,rfl,rfl,_,_,rfl,rfl,_,_,rfl,rfl,_,_,rfl,rfl,_,_,rfl, .inl rfl,_,_,rfl,⟨_,rfl,Nat.le_refl _,rfl⟩,rfl⟩ ?_
    exact⟨_, .mk 7 0 0 0 rf0 [] [.mk (1+((o.toNat % 4:Nat):Int)) v 0 0 ⟨nm,md,pl,rn⟩ [] []],2,rfl,nil_op 7 (nil_ll1 (nil_leaf2 (1+((o.toNat % 4:Nat):Int)) v 0 0 ⟨nm,md,pl,rn⟩)),by decide,(hC2 6).neg.le (by decide)⟩
   refine And.intro (fun h=>absurd (show(m.toNat:Int).tmod 8=0 from h) (by rw [e8];omega)) (fun _=>?_)
   by_cases m12:m.toNat % 8=1∨m.toNat % 8=2
   rotate_left
   ·refine And.intro (fun h=>absurd (show(m.toNat:Int).tmod 8=1 from h) (by rw [e8];omega)) (fun _=>?_)
    refine And.intro (fun h=>absurd (show(m.toNat:Int).tmod 8=2 from h) (by rw [e8];omega)) (fun _=>?_)
    refine end1 (.agg [i64 (1+((o.toNat % 4:Nat):Int)),i64 v,i64 0,i64 0, .str nm,i64 md, .str pl,i64 rn, .nils, .nils]) rfl rfl ?_
    exact⟨_, .mk (1+((o.toNat % 4:Nat):Int)) v 0 0 ⟨nm,md,pl,rn⟩ [] [],1,rfl,nil_leaf2 (1+((o.toNat % 4:Nat):Int)) v 0 0 ⟨nm,md,pl,rn⟩,by decide,(hC2 7).le (by decide)⟩
   by_cases m1:m.toNat % 8=1
   ·refine And.intro (fun _=>?_) (fun h=>absurd (show(m.toNat:Int).tmod 8=1 by rw [e8];omega) h)
    refine vdraw_ot otD13 (by kernel_rfl) ?_
    refine⟨_,u8_next w,?_⟩
    refine⟨by decide,_,u8_half n,?_⟩
    refine⟨⟨rfl,rfl,trivial⟩,?_⟩
    refine⟨⟨rfl,trivial⟩,?_⟩
    refine vdraw_ot otD14 (by kernel_rfl) ?_
    refine⟨by decide,?_⟩
    have e2:((m.toNat % 2:Nat):Int)=IntKind.i64.wrap ((m.toNat:Int).tmod 2):=by
     rw [show(m.toNat:Int).tmod 2=((m.toNat % 2:Nat):Int) from rfl];exact wrap_i64 (by omega) (by omega)
    refine⟨((m.toNat % 2:Nat):Int),e2,?_⟩
    refine⟨8+((m.toNat % 2:Nat):Int),wrap_i64 (by omega) (by omega),?_⟩
    refine(cond_leaf ⟨UInt8.ofNat (w.toNat+1),o,UInt8.ofNat (n.toNat / 2),7,x,y,z⟩ rs cs h (by show 3≤(7:UInt8).toNat % 8;decide)).at fun r hr=>?_
    obtain⟨⟨ao,an,ar,av,af,as',aa⟩,rfl,hc2⟩:=hr
    refine⟨⟨rfl,congrArg (fun z:Int=>AV.p (.int .i64 z)) e2,rfl,trivial⟩,?_⟩
    refine⟨⟨congrArg (fun z:Int=>AV.p (.int .i64 z)) e2,rfl,trivial⟩,?_⟩
    refine end1 (.agg [i64 (8+((m.toNat % 2:Nat):Int)),i64 0,i64 0,i64 0, .str [],i64 0, .str [],i64 0, .nils, .lsts 10 [[i64 (1+((o.toNat % 4:Nat):Int)),i64 v,i64 0,i64 0, .str nm,i64 md, .str pl,i64 rn, .nils, .nils],(Cd.mk ao an ar av af as' aa).cells]]) rfl ⟨_,rfl,_,_,rfl,rfl,_,_,rfl,rfl,_,_,rfl,rfl,_,_,rfl,rfl,_,_,rfl,rfl,_,_,rfl,rfl,_,_,rfl,rfl,_,_,rfl,rfl,_,_,rfl, .inl rfl,_,_,rfl,⟨_,rfl,Nat.le_refl _,rfl⟩,rfl⟩ ?_
    exact⟨_, .mk (8+((m.toNat % 2:Nat):Int)) 0 0 0 rf0 [] [.mk (1+((o.toNat % 4:Nat):Int)) v 0 0 ⟨nm,md,pl,rn⟩ [] [], .mk ao an ar av af as' aa],3,rfl,nil_op _ (nil_ll2 (nil_leaf2 (1+((o.toNat % 4:Nat):Int)) v 0 0 ⟨nm,md,pl,rn⟩) (NilD.refl _)),by decide,CdS.two (by omega) (hC2 6) (hc2 6)⟩
   ·refine And.intro (fun h=>absurd (show(m.toNat:Int).tmod 8=1 from h) (by rw [e8];omega)) (fun _=>?_)
    refine And.intro (fun _=>?_) (fun h=>absurd (show(m.toNat:Int).tmod 8=2 by rw [e8];omega) h)
    refine vdraw_ot otD13 (by kernel_rfl) ?_
    refine⟨_,u8_next w,?_⟩
    refine⟨by decide,_,u8_half n,?_⟩
    refine⟨⟨rfl,rfl,trivial⟩,?_⟩
    refine⟨⟨rfl,trivial⟩,?_⟩
    refine vdraw_ot otD14 (by kernel_rfl) ?_
    refine⟨by decide,?_⟩
    have e2:((m.toNat % 2:Nat):Int)=IntKind.i64.wrap ((m.toNat:Int).tmod 2):=by
     rw [show(m.toNat:Int).tmod 2=((m.toNat % 2:Nat):Int) from rfl];exact wrap_i64 (by omega) (by omega)
    refine⟨((m.toNat % 2:Nat):Int),e2,?_⟩
    refine⟨8+((m.toNat % 2:Nat):Int),wrap_i64 (by omega) (by omega),?_⟩
    refine(cond_leaf ⟨UInt8.ofNat (w.toNat+1),o,UInt8.ofNat (n.toNat / 2),7,x,y,z⟩ rs cs h (by show 3≤(7:UInt8).toNat % 8;decide)).at fun r hr=>?_
    obtain⟨⟨ao,an,ar,av,af,as',aa⟩,rfl,hc2⟩:=hr
    refine⟨⟨rfl,congrArg (fun z:Int=>AV.p (.int .i64 z)) e2,rfl,trivial⟩,?_⟩
    refine⟨⟨congrArg (fun z:Int=>AV.p (.int .i64 z)) e2,rfl,trivial⟩,?_⟩
    refine end1 (.agg [i64 (8+((m.toNat % 2:Nat):Int)),i64 0,i64 0,i64 0, .str [],i64 0, .str [],i64 0, .nils, .lsts 10 [[i64 (1+((o.toNat % 4:Nat):Int)),i64 v,i64 0,i64 0, .str nm,i64 md, .str pl,i64 rn, .nils, .nils],(Cd.mk ao an ar av af as' aa).cells]]) rfl ⟨_,rfl,_,_,rfl,rfl,_,_,rfl,rfl,_,_,rfl,rfl,_,_,rfl,rfl,_,_,rfl,rfl,_,_,rfl,rfl,_,_,rfl,rfl,_,_,rfl,rfl,_,_,rfl, .inl rfl,_,_,rfl,⟨_,rfl,Nat.le_refl _,rfl⟩,rfl⟩ ?_
    exact⟨_, .mk (8+((m.toNat % 2:Nat):Int)) 0 0 0 rf0 [] [.mk (1+((o.toNat % 4:Nat):Int)) v 0 0 ⟨nm,md,pl,rn⟩ [] [], .mk ao an ar av af as' aa],3,rfl,nil_op _ (nil_ll2 (nil_leaf2 (1+((o.toNat % 4:Nat):Int)) v 0 0 ⟨nm,md,pl,rn⟩) (NilD.refl _)),by decide,CdS.two (by omega) (hC2 6) (hc2 6)⟩
  refine And.intro (fun _=>?_) (fun h=>absurd (show(5:Int)<(o.toNat:Int).tmod 8 by rw [f8];omega) h)
  refine vdraw_ot otD6 (by kernel_rfl) ?_
  refine⟨(n.toNat:Int),en,?_⟩
  refine⟨by decide,?_⟩
  have hj:(n.toNat:Int).tmod 2=((n.toNat % 2:Nat):Int):=rfl
  have hj2:n.toNat % 2<2:=Nat.mod_lt _ (by decide)
  generalize n.toNat % 2=j at hj hj2
  generalize (n.toNat:Int).tmod 2=jj at hj ⊢
  subst hj
  have s01:=set01 j hj2
  refine⟨by show(0:Int)≤((j:Nat):Int)∧((j:Nat):Int)≤2;omega,?_⟩
  refine⟨⟨congrArg (fun z:Int=>AV.p (.int .i64 z)) en,rfl,trivial⟩,?_⟩
  refine⟨⟨congrArg (fun z:Int=>AV.p (.int .i64 z)) en,rfl,trivial⟩,?_⟩
  have hC3:∀ d,CdS (d+1) (.mk 5 0 0 0 ⟨nm,md,pl,rn⟩ (([0,1]:List Int).drop j) []) 1 18:=CdS.leaf (by decide) (by decide) (by decide) (leafB5 hok s01.1) hrf (by decide) (by decide) s01.2
  refine⟨by decide,?_⟩
  by_cases m0:m.toNat % 8=0
  ·refine And.intro (fun _=>?_) (fun h=>absurd (show(m.toNat:Int).tmod 8=0 by rw [e8];omega) h)
   refine end1 (.agg [i64 7,i64 0,i64 0,i64 0, .str [],i64 0, .str [],i64 0, .nils, .lsts 10 [[i64 5,i64 0,i64 0,i64 0, .str nm,i64 md, .str pl,i64 rn, .lst ((([0,1]:List Int).map i64).drop j), .nils]]]) rfl ⟨_,rfl,_,_,rfl,rfl,_,_,rfl,rfl,_,_,rfl,rfl,_,_,rfl,rfl,_,_,rfl,rfl,_,_,rfl,rfl,_,_,rfl,rfl,_,_,rfl,rfl,_,_,rfl, .inl rfl,_,_,rfl,⟨_,rfl,Nat.le_refl _,rfl⟩,rfl⟩ ?_
   exact⟨_, .mk 7 0 0 0 rf0 [] [.mk 5 0 0 0 ⟨nm,md,pl,rn⟩ (([0,1]:List Int).drop j) []],2,rfl,nil_op 7 (nil_ll1 (nil_leafD ⟨nm,md,pl,rn⟩ [0,1] j)),by decide,(hC3 6).neg.le (by decide)⟩
  refine And.intro (fun h=>absurd (show(m.toNat:Int).tmod 8=0 from h) (by rw [e8];omega)) (fun _=>?_)
  by_cases m12:m.toNat % 8=1∨m.toNat % 8=2
  rotate_left
  ·refine And.intro (fun h=>absurd (show(m.toNat:Int).tmod 8=1 from h) (by rw [e8];omega)) (fun _=>?_)
   refine And.intro (fun h=>absurd (show(m.toNat:Int).tmod 8=2 from h) (by rw [e8];omega)) (fun _=>?_)
   refine end1 (.agg [i64 5,i64 0,i64 0,i64 0, .str nm,i64 md, .str pl,i64 rn, .lst ((([0,1]:List Int).map i64).drop j), .nils]) rfl rfl ?_
   exact⟨_, .mk 5 0 0 0 ⟨nm,md,pl,rn⟩ (([0,1]:List Int).drop j) [],1,rfl,nil_leafD ⟨nm,md,pl,rn⟩ [0,1] j,by decide,(hC3 7).le (by decide)⟩
  by_cases m1:m.toNat % 8=1
  ·refine And.intro (fun _=>?_) (fun h=>absurd (show(m.toNat:Int).tmod 8=1 by rw [e8];omega) h)
   refine vdraw_ot otD13 (by kernel_rfl) ?_
   refine⟨_,u8_next w,?_⟩
   refine⟨by decide,_,u8_half n,?_⟩
   refine⟨⟨rfl,rfl,trivial⟩,?_⟩
   refine⟨⟨rfl,trivial⟩,?_⟩
   refine vdraw_ot otD14 (by kernel_rfl) ?_
   refine⟨by decide,?_⟩
   have e2:((m.toNat % 2:Nat):Int)=IntKind.i64.wrap ((m.toNat:Int).tmod 2):=by
    rw [show(m.toNat:Int).tmod 2=((m.toNat % 2:Nat):Int) from rfl];exact wrap_i64 (by omega) (by omega)
   refine⟨((m.toNat % 2:Nat):Int),e2,?_⟩
   refine⟨8+((m.toNat % 2:Nat):Int),wrap_i64 (by omega) (by omega),?_⟩
   refine(cond_leaf ⟨UInt8.ofNat (w.toNat+1),o,UInt8.ofNat (n.toNat / 2),7,x,y,z⟩ rs cs h (by show 3≤(7:UInt8).toNat % 8;decide)).at fun r hr=>?_
   obtain⟨⟨ao,an,ar,av,af,as',aa⟩,rfl,hc2⟩:=hr
   refine⟨⟨rfl,congrArg (fun z:Int=>AV.p (.int .i64 z)) e2,rfl,trivial⟩,?_⟩
   refine⟨⟨congrArg (fun z:Int=>AV.p (.int .i64 z)) e2,rfl,trivial⟩,?_⟩
   refine end1 (.agg [i64 (8+((m.toNat % 2:Nat):Int)),i64 0,i64 0,i64 0, .str [],i64 0, .str [],i64 0, .nils, .lsts 10 [[i64 5,i64 0,i64 0,i64 0, .str nm,i64 md, .str pl,i64 rn, .lst ((([0,1]:List Int).map i64).drop j), .nils],(Cd.mk ao an ar av af as' aa).cells]]) rfl ⟨_,rfl,_,_,rfl,rfl,_,_,rfl,rfl,_,_,rfl,rfl,_,_,rfl,rfl,_,_,rfl,rfl,_,_,rfl,rfl,_,_,rfl,rfl,_,_,rfl,rfl,_,_,rfl, .inl rfl,_,_,rfl,⟨_,rfl,Nat.le_refl _,rfl⟩,rfl⟩ ?_
   exact⟨_, .mk (8+((m.toNat % 2:Nat):Int)) 0 0 0 rf0 [] [.mk 5 0 0 0 ⟨nm,md,pl,rn⟩ (([0,1]:List Int).drop j) [], .mk ao an ar av af as' aa],3,rfl,nil_op _ (nil_ll2 (nil_leafD ⟨nm,md,pl,rn⟩ [0,1] j) (NilD.refl _)),by decide,CdS.two (by omega) (hC3 6) (hc2 6)⟩
  ·refine And.intro (fun h=>absurd (show(m.toNat:Int).tmod 8=1 from h) (by rw [e8];omega)) (fun _=>?_)
   refine And.intro (fun _=>?_) (fun h=>absurd (show(m.toNat:Int).tmod 8=2 by rw [e8];omega) h)
   refine vdraw_ot otD13 (by kernel_rfl) ?_
   refine⟨_,u8_next w,?_⟩
   refine⟨by decide,_,u8_half n,?_⟩
   refine⟨⟨rfl,rfl,trivial⟩,?_⟩
   refine⟨⟨rfl,trivial⟩,?_⟩
   refine vdraw_ot otD14 (by kernel_rfl) ?_
   refine⟨by decide,?_⟩
   have e2:((m.toNat % 2:Nat):Int)=IntKind.i64.wrap ((m.toNat:Int).tmod 2):=by
    rw [show(m.toNat:Int).tmod 2=((m.toNat % 2:Nat):Int) from rfl];exact wrap_i64 (by omega) (by omega)
   refine⟨((m.toNat % 2:Nat):Int),e2,?_⟩
   refine⟨8+((m.toNat % 2:Nat):Int),wrap_i64 (by omega) (by omega),?_⟩
   refine(cond_leaf ⟨UInt8.ofNat (w.toNat+1),o,UInt8.ofNat (n.toNat / 2),7,x,y,z⟩ rs cs h (by show 3≤(7:UInt8).toNat % 8;decide)).at fun r hr=>?_
   obtain⟨⟨ao,an,ar,av,af,as',aa⟩,rfl,hc2⟩:=hr
   refine⟨⟨rfl,congrArg (fun z:Int=>AV.p (.int .i64 z)) e2,rfl,trivial⟩,?_⟩
   refine⟨⟨congrArg (fun z:Int=>AV.p (.int .i64 z)) e2,rfl,trivial⟩,?_⟩
   refine end1 (.agg [i64 (8+((m.toNat % 2:Nat):Int)),i64 0,i64 0,i64 0, .str [],i64 0, .str [],i64 0, .nils, .lsts 10 [[i64 5,i64 0,i64 0,i64 0, .str nm,i64 md, .str pl,i64 rn, .lst ((([0,1]:List Int).map i64).drop j), .nils],(Cd.mk ao an ar av af as' aa).cells]]) rfl ⟨_,rfl,_,_,rfl,rfl,_,_,rfl,rfl,_,_,rfl,rfl,_,_,rfl,rfl,_,_,rfl,rfl,_,_,rfl,rfl,_,_,rfl,rfl,_,_,rfl,rfl,_,_,rfl, .inl rfl,_,_,rfl,⟨_,rfl,Nat.le_refl _,rfl⟩,rfl⟩ ?_
   exact⟨_, .mk (8+((m.toNat % 2:Nat):Int)) 0 0 0 rf0 [] [.mk 5 0 0 0 ⟨nm,md,pl,rn⟩ (([0,1]:List Int).drop j) [], .mk ao an ar av af as' aa],3,rfl,nil_op _ (nil_ll2 (nil_leafD ⟨nm,md,pl,rn⟩ [0,1] j) (NilD.refl _)),by decide,CdS.two (by omega) (hC3 6) (hc2 6)⟩
theorem cond_c (p:Pc) (rs:List Rf) (cs:List Int) (h:RcA rs cs):Pure cx 51 [.agg p.cells,rfl_ rs,ints cs] fun r=>∃ (c:Cd) (n:Nat),r=.ret [c.pv]∧n≤3∧CdS 8 c n 43:=
 (cond_c' p rs cs h).weak fun r hr=>by
  obtain⟨y,c,n,rfl,h1,h2⟩:=hr
  exact⟨.ret [c.pv],⟨_,rfl,_,_,rfl,h1,rfl⟩,c,n,rfl,h2⟩
theorem vdraw_otEx {C : Cx} {rd : Bool} {n0 N : Nat} {all : List Oper} {σ : Sg} {ds : List AD} {H : Hp} {K : Sg → List AD → Hp → Prop} {X : List AP → Sg → List AD → Hp → Prop} {α : Type} (sl : α → List (Nat × AV)) (hp : α → Hp) (pr : α → Prop) (ot : OT)
    (h : (C.P.follows .mixedOrders && slotsOK N all (masks all []) && otOK all (masks all []) ot [] [] []) = true)
    (hv : vD C rd all σ (fun σ' ds' H' => ∃ x, pr x ∧ Ent C n0 N σ' ds' H' (sets (fun _ => .junk) (sl x)) ds (hp x)) X ot [] ds H) (hk : ∀ x, pr x → K (sets (fun _ => .junk) (sl x)) ds (hp x)) :
    ∃ ot, (C.P.follows .mixedOrders && slotsOK N all (masks all []) && otOK all (masks all []) ot [] [] []) = true ∧
    ((vD C rd all σ K X ot [] ds H) ∨
     ∃ (α : Type) (sl : α → List (Nat × AV)) (hp : α → Hp) (pr : α → Prop),
      vD C rd all σ (fun σ' ds' H' => ∃ x, pr x ∧ Ent C n0 N σ' ds' H' (sets (fun _ => .junk) (sl x)) ds (hp x)) X ot [] ds H ∧
      ∀ x, pr x → K (sets (fun _ => .junk) (sl x)) ds (hp x)) := ⟨_, h, .inr ⟨α, sl, hp, pr, hv, hk⟩⟩
abbrev otC5:OT:=(.pure 0 (.pure 1 (.pure 2 (.pure 3 (.pure 4 (.pure 5 (.pure 6 (.pure 8 (.pure 9 (.pure 10 (.pure 11 (.pure 12 (.pure 13 (.pure 14 (.pure 15 (.pure 16 (.pure 17 (.pure 18
 (.eff 7 [15,14,9] (.pure 19 (.eff 20 [15,14,9,4,1] (.eff 21 [] .fin .nil) .nil))
  (.eff 20 [15,14,9,4,1] (.eff 7 [15,14,9] (.pure 19 (.eff 21 [] .fin .nil)) .nil) .nil))))))))))))))))))))
def ksO (l:List Cs):AObj:=⟨TCase,false, .pus (l.map Cs.cells)⟩
def pc0:Pc:=⟨0,0,0,0,0,0,0⟩
theorem pccell {l:List Pc} {k:Nat} (h:k<l.length):(l.map Pc.cells)[k]?=some (l.getD k pc0).cells:=map_at pc0 h
structure GrS (k:Nat) (g:Int):Prop where
 ok:(k=0∧g=0)∨((k=2∨k=3)∧1≤g∧g≤12)
theorem one_nu {v:Int} (h:-999≤v∧v≤999):NuS [v]:=by
 have h1:wgtB v=true:=by rw [wgtB,decide_eq_true (by omega),decide_eq_true (by omega)];rfl
 refine⟨?_,?_⟩
 ·show(decide (1≤1) && decide (1≤8) && (wgtB v && true))=true
  rw [h1];rfl
 ·show lw (intT v++[])≤6
  rw [List.append_nil,intT]
  have h1:=lw_dig v
  have h2:=lw_dig (-v)
  split <;> simp only [lw_cons,lw_n,List.length_cons,List.length_nil] <;> omega
def CaQ (r:PEnd):Prop:=∃ (y:PV) (l:List Cs),r=.ret [y]∧NilD y (css l)∧RuS l
theorem nil_cases (out:List Cs) (l:List Int):NilD (.lsts 11 (out.map Cs.cells++[zc0++[.lst (l.map i64)]])) (css (out++[⟨cd0,l⟩])):=by
 simp only [css,NilD,List.map_append,List.map_cons,List.map_nil]
 refine⟨_,rfl,?_⟩
 induction out with
 | nil=>
  simp only [List.map_nil,List.nil_append,NilDLL]
  exact⟨_,_,rfl,nil_zc l,rfl⟩
 | cons c out ih=>
  simp only [List.map_cons,List.cons_append,NilDLL]
  exact⟨_,_,rfl,NilDL.refl _,ih⟩
structure OutS (out:List Cs) (i:Nat):Prop where
 cs:∀ c∈out,CsS c
 len:out.length≤i
theorem OutS.snoc {out:List Cs} {i:Nat} {c:Cs} (h:OutS out i) (hc:CsS c):OutS (out++[c]) (i+1):=by
 refine⟨fun x hx=>?_,by rw [List.length_append];have:=h.len;simp only [List.length_cons,List.length_nil];omega⟩
 rcases List.mem_append.1 hx with hx | hx
 ·exact h.cs x hx
 ·rw [List.mem_singleton.1 hx];exact hc
theorem cases_c' (p:Pt) (rs:List Rf) (cs:List Int) (h:RcS rs cs) (k:Nat) (g:Int) (hg:GrS k g) (hp:p.cases.length≤9223372036854775807):Pure cx 30 [.agg p.cells,rfl_ rs,ints cs,i64 (k:Int),i64 g] CaQ:=by
 refine pure_of_vc Tryz.func30 rfl rfl rfl ?_
 obtain⟨kind,card,frm,modes,pl,ps,x,y,z⟩:=p
 have hps:(ps.map Pc.cells).length=ps.length:=List.length_map ..
 have hrs:(rs.map Rf.cells).length=rs.length:=List.length_map ..
 have hr2:=h.len
 simp only [] at hp
 refine⟨Nat × List Cs,fun x'=>[(1, .p (rfl_ rs)),(2, .p (ints cs)),(3, .p (i64 (k:Int))),(4, .p (i64 g)),(5, .ptr 0 0 0),(11, .sl 1 11 0 x'.2.length),(12, .p (i64 x'.1))],fun x'=>⟨2,[(1,ksO x'.2),(0,ptO ⟨kind,card,frm,modes,pl,ps,x,y,z⟩)]⟩,fun x'=>x'.1≤3∧OutS x'.2 x'.1,fun x'=>3 - x'.1,?_,?_⟩
 ·exact⟨(0,[]),⟨by decide,⟨fun c hc=>(by cases hc),Nat.le_refl _⟩⟩,ent_of [] [] [(1,11)] rfl (sk) (sk) rfl⟩
 rintro⟨i,out⟩ ⟨k1,k2⟩
 simp only [] at k1 k2
 by_cases ha:i<ps.length∧i<3∧0<rs.length
 rotate_left
 ·by_cases hi:i<ps.length
  rotate_left
  ·refine And.intro (fun h=>absurd (show(i:Int)<((ps.map Pc.cells).length:Nat) from h) (by rw [hps];omega)) (fun _=>?_)
   refine⟨by show(0:Int)≤0∧(0:Int)<3;decide,?_⟩
   refine⟨.p (u8 x),ldIn1 (by kernel_rfl) rfl,?_⟩
   refine⟨(x.toNat:Int),wrap_i64 (by omega) (by have:=x.toNat_lt;omega),?_⟩
   refine⟨by decide,?_⟩
   have hz:=tmod_in (Int.natCast_nonneg x.toNat) (show(0:Int)<21 by decide)
   generalize (x.toNat:Int).tmod 21=zz at hz ⊢
   refine⟨zz - 10,wrap_i64 (by omega) (by omega),?_⟩
   by_cases hg0:0<g
   ·refine And.intro (fun _=>?_) (fun h=>absurd hg0 h)
    obtain⟨hk,hg1,hg2⟩:(k=2∨k=3)∧1≤g∧g≤12:=by
     rcases hg.ok with h | h
     ·omega
     ·exact h
    refine(weights_c x y z k g hk ⟨by omega,hg2⟩).at fun r hr=>?_
    obtain⟨l,rfl,hl⟩:=hr
    refine⟨by show 0+1≤1;omega,[zc0++[ints l]],rfl,?_⟩
    refine⟨by show 0+out.length≤(out.map Cs.cells).length;simp,out.map Cs.cells,takeAll (by simp),by show(out.length+1) * 152≤140737488355328;have:=k2.len;omega,out.map Cs.cells++[zc0++[ints l]],rfl,?_⟩
    refine end1 (.lsts 11 (out.map Cs.cells++[zc0++[ints l]])) rfl ⟨_,rfl,by show 0+(out.length+1)≤(out.map Cs.cells++[zc0++[ints l]]).length;simp,takeAll (by simp)⟩ ⟨_,out++[⟨cd0,l⟩],rfl,nil_cases out l,rule_ok (by have:=k2.len;omega) k2.cs ⟨rfl,(hl.nu hk)⟩⟩
   ·refine And.intro (fun h=>absurd h hg0) (fun _=>?_)
    refine⟨by show 0+1≤1;omega,_,rfl, .inl ⟨[2],[zc0++[ints [zz - 10]]],rfl,⟨_,_,rfl,⟨_,_,rfl,rfl,_,_,rfl,rfl,_,_,rfl,rfl,_,_,rfl,rfl,_,_,rfl,rfl,_,_,rfl,rfl,_,_,rfl,rfl,_,_,rfl,rfl,_,_,rfl, .inl rfl,_,_,rfl, .inl rfl,_,_,rfl,⟨_,rfl,Nat.le_refl _,rfl⟩,rfl⟩,rfl⟩,?_⟩⟩
    refine⟨by show 0+out.length≤(out.map Cs.cells).length;simp,out.map Cs.cells,takeAll (by simp),by show(out.length+1) * 152≤140737488355328;have:=k2.len;omega,out.map Cs.cells++[zc0++[ints [zz - 10]]],rfl,?_⟩
    refine end1 (.lsts 11 (out.map Cs.cells++[zc0++[ints [zz - 10]]])) rfl ⟨_,rfl,by show 0+(out.length+1)≤(out.map Cs.cells++[zc0++[ints [zz - 10]]]).length;simp,takeAll (by simp)⟩ ⟨_,out++[⟨cd0,[zz - 10]⟩],rfl,nil_cases out [zz - 10],rule_ok (by have:=k2.len;omega) k2.cs ⟨rfl,(one_nu (by omega))⟩⟩
  refine And.intro (fun _=>?_) (fun h=>absurd (show(i:Int)<((ps.map Pc.cells).length:Nat) by rw [hps];omega) h)
  by_cases hi3:i<3
  rotate_left
  ·refine And.intro (fun h=>absurd (show(i:Int)<3 from h) (by omega)) (fun _=>?_)
   refine⟨by show(0:Int)≤0∧(0:Int)<3;decide,?_⟩
   refine⟨.p (u8 x),ldIn1 (by kernel_rfl) rfl,?_⟩
   refine⟨(x.toNat:Int),wrap_i64 (by omega) (by have:=x.toNat_lt;omega),?_⟩
   refine⟨by decide,?_⟩
   have hz:=tmod_in (Int.natCast_nonneg x.toNat) (show(0:Int)<21 by decide)
   generalize (x.toNat:Int).tmod 21=zz at hz ⊢
   refine⟨zz - 10,wrap_i64 (by omega) (by omega),?_⟩
   by_cases hg0:0<g
   ·refine And.intro (fun _=>?_) (fun h=>absurd hg0 h)
    obtain⟨hk,hg1,hg2⟩:(k=2∨k=3)∧1≤g∧g≤12:=by
     rcases hg.ok with h | h
     ·omega
     ·exact h
    refine(weights_c x y z k g hk ⟨by omega,hg2⟩).at fun r hr=>?_
    obtain⟨l,rfl,hl⟩:=hr
    refine⟨by show 0+1≤1;omega,[zc0++[ints l]],rfl,?_⟩
    refine⟨by show 0+out.length≤(out.map Cs.cells).length;simp,out.map Cs.cells,takeAll (by simp),by show(out.length+1) * 152≤140737488355328;have:=k2.len;omega,out.map Cs.cells++[zc0++[ints l]],rfl,?_⟩
    refine end1 (.lsts 11 (out.map Cs.cells++[zc0++[ints l]])) rfl ⟨_,rfl,by show 0+(out.length+1)≤(out.map Cs.cells++[zc0++[ints l]]).length;simp,takeAll (by simp)⟩ ⟨_,out++[⟨cd0,l⟩],rfl,nil_cases out l,rule_ok (by have:=k2.len;omega) k2.cs ⟨rfl,(hl.nu hk)⟩⟩
   ·refine And.intro (fun h=>absurd h hg0) (fun _=>?_)
    refine⟨by show 0+1≤1;omega,_,rfl, .inl ⟨[2],[zc0++[ints [zz - 10]]],rfl,⟨_,_,rfl,⟨_,_,rfl,rfl,_,_,rfl,rfl,_,_,rfl,rfl,_,_,rfl,rfl,_,_,rfl,rfl,_,_,rfl,rfl,_,_,rfl,rfl,_,_,rfl,rfl,_,_,rfl, .inl rfl,_,_,rfl, .inl rfl,_,_,rfl,⟨_,rfl,Nat.le_refl _,rfl⟩,rfl⟩,rfl⟩,?_⟩⟩
    refine⟨by show 0+out.length≤(out.map Cs.cells).length;simp,out.map Cs.cells,takeAll (by simp),by show(out.length+1) * 152≤140737488355328;have:=k2.len;omega,out.map Cs.cells++[zc0++[ints [zz - 10]]],rfl,?_⟩
    refine end1 (.lsts 11 (out.map Cs.cells++[zc0++[ints [zz - 10]]])) rfl ⟨_,rfl,by show 0+(out.length+1)≤(out.map Cs.cells++[zc0++[ints [zz - 10]]]).length;simp,takeAll (by simp)⟩ ⟨_,out++[⟨cd0,[zz - 10]⟩],rfl,nil_cases out [zz - 10],rule_ok (by have:=k2.len;omega) k2.cs ⟨rfl,(one_nu (by omega))⟩⟩
  refine And.intro (fun _=>?_) (fun h=>absurd (show(i:Int)<3 by omega) h)
  refine And.intro (fun h=>absurd (show(0:Int)<((rs.map Rf.cells).length:Nat) from h) (by rw [hrs];omega)) (fun _=>?_)
  refine⟨by show(0:Int)≤0∧(0:Int)<3;decide,?_⟩
  refine⟨.p (u8 x),ldIn1 (by kernel_rfl) rfl,?_⟩
  refine⟨(x.toNat:Int),wrap_i64 (by omega) (by have:=x.toNat_lt;omega),?_⟩
  refine⟨by decide,?_⟩
  have hz:=tmod_in (Int.natCast_nonneg x.toNat) (show(0:Int)<21 by decide)
  generalize (x.toNat:Int).tmod 21=zz at hz ⊢
  refine⟨zz - 10,wrap_i64 (by omega) (by omega),?_⟩
  by_cases hg0:0<g
  ·refine And.intro (fun _=>?_) (fun h=>absurd hg0 h)
   obtain⟨hk,hg1,hg2⟩:(k=2∨k=3)∧1≤g∧g≤12:=by
    rcases hg.ok with h | h
    ·omega
    ·exact h
   refine(weights_c x y z k g hk ⟨by omega,hg2⟩).at fun r hr=>?_
   obtain⟨l,rfl,hl⟩:=hr
   refine⟨by show 0+1≤1;omega,[zc0++[ints l]],rfl,?_⟩
   refine⟨by show 0+out.length≤(out.map Cs.cells).length;simp,out.map Cs.cells,takeAll (by simp),by show(out.length+1) * 152≤140737488355328;have:=k2.len;omega,out.map Cs.cells++[zc0++[ints l]],rfl,?_⟩
   refine end1 (.lsts 11 (out.map Cs.cells++[zc0++[ints l]])) rfl ⟨_,rfl,by show 0+(out.length+1)≤(out.map Cs.cells++[zc0++[ints l]]).length;simp,takeAll (by simp)⟩ ⟨_,out++[⟨cd0,l⟩],rfl,nil_cases out l,rule_ok (by have:=k2.len;omega) k2.cs ⟨rfl,(hl.nu hk)⟩⟩
  ·refine And.intro (fun h=>absurd h hg0) (fun _=>?_)
   refine⟨by show 0+1≤1;omega,_,rfl, .inl ⟨[2],[zc0++[ints [zz - 10]]],rfl,⟨_,_,rfl,⟨_,_,rfl,rfl,_,_,rfl,rfl,_,_,rfl,rfl,_,_,rfl,rfl,_,_,rfl,rfl,_,_,rfl,rfl,_,_,rfl,rfl,_,_,rfl,rfl,_,_,rfl, .inl rfl,_,_,rfl, .inl rfl,_,_,rfl,⟨_,rfl,Nat.le_refl _,rfl⟩,rfl⟩,rfl⟩,?_⟩⟩
   refine⟨by show 0+out.length≤(out.map Cs.cells).length;simp,out.map Cs.cells,takeAll (by simp),by show(out.length+1) * 152≤140737488355328;have:=k2.len;omega,out.map Cs.cells++[zc0++[ints [zz - 10]]],rfl,?_⟩
   refine end1 (.lsts 11 (out.map Cs.cells++[zc0++[ints [zz - 10]]])) rfl ⟨_,rfl,by show 0+(out.length+1)≤(out.map Cs.cells++[zc0++[ints [zz - 10]]]).length;simp,takeAll (by simp)⟩ ⟨_,out++[⟨cd0,[zz - 10]⟩],rfl,nil_cases out [zz - 10],rule_ok (by have:=k2.len;omega) k2.cs ⟨rfl,(one_nu (by omega))⟩⟩
 obtain⟨hi,hi3,hr0⟩:=ha
 refine And.intro (fun _=>?_) (fun h=>absurd (show(i:Int)<((ps.map Pc.cells).length:Nat) by rw [hps];omega) h)
 refine And.intro (fun _=>?_) (fun h=>absurd (show(i:Int)<3 by omega) h)
 refine And.intro (fun _=>?_) (fun h=>absurd (show(0:Int)<((rs.map Rf.cells).length:Nat) by rw [hrs];omega) h)
 have hcell:=pccell hi
 generalize ps.getD i pc0=P at hcell
 have hcd:=cond_c P rs cs ⟨h,hr0⟩
 obtain⟨w,o,n,m,a,b,c⟩:=P
 have haL:=a.toNat_lt
 have hv:=tmod_in (Int.natCast_nonneg a.toNat) (show(0:Int)<201 by decide)
 refine vdraw_otEx (fun c:Cd=>[(1, .p (rfl_ rs)),(2, .p (ints cs)),(3, .p (i64 (k:Int))),(4, .p (i64 g)),(5, .ptr 0 0 0),(11, .sl 1 11 0 out.length),(12, .p (i64 (i:Int))),(13, .ptr 2 0 0)]) (fun c=>⟨3,[(2,⟨TCase,false, .bx ((c.cells++[ints [(a.toNat:Int).tmod 201 - 100]]).map .p)⟩),(1,ksO out),(0,ptO ⟨kind,card,frm,modes,pl,ps,x,y,z⟩)]⟩) (fun c=>∃ n,n≤3∧CdS 8 c n 43) otC5 (by kernel_rfl) ?_ ?_
 ·refine⟨_,⟨by omega,(Pc.mk w o n m a b c).cells,hcell,rfl⟩,?_⟩
  refine⟨_,⟨by omega,(Pc.mk w o n m a b c).cells,hcell,rfl⟩,?_⟩
  refine⟨_,⟨by show(0:Int)≤0∧(0:Int)<3;decide,[u8 a],rfl,rfl⟩,?_⟩
  refine⟨(a.toNat:Int),wrap_i64 (by omega) (by omega),?_⟩
  refine⟨by decide,?_⟩
  refine⟨(a.toNat:Int).tmod 201 - 100,wrap_i64 (by omega) (by omega),?_⟩
  have ea:(a.toNat:Int)=IntKind.i64.wrap (a.toNat:Int):=wrap_i64 (by omega) (by omega)
  refine And.intro ?_ ?_
  ·refine hcd.at fun r hr=>?_
   obtain⟨⟨ao,an,ar,av,af,as',aa⟩,nn,rfl,hnn,hcc⟩:=hr
   refine⟨⟨congrArg (fun z:Int=>AV.p (.int .i64 z)) ea,rfl,rfl,trivial⟩,?_⟩
   refine⟨⟨congrArg (fun z:Int=>AV.p (.int .i64 z)) ea,rfl,rfl,rfl,rfl,trivial⟩,?_⟩
   exact⟨.mk ao an ar av af as' aa,⟨nn,hnn,hcc⟩,ent_of [] [] [] rfl (sk) (sk) rfl⟩
  ·refine⟨⟨congrArg (fun z:Int=>AV.p (.int .i64 z)) ea,rfl,rfl,rfl,rfl,trivial⟩,?_⟩
   refine hcd.at fun r hr=>?_
   obtain⟨⟨ao,an,ar,av,af,as',aa⟩,nn,rfl,hnn,hcc⟩:=hr
   refine⟨⟨congrArg (fun z:Int=>AV.p (.int .i64 z)) ea,rfl,rfl,trivial⟩,?_⟩
   exact⟨.mk ao an ar av af as' aa,⟨nn,hnn,hcc⟩,ent_of [] [] [] rfl (sk) (sk) rfl⟩
 ·rintro⟨ao,an,ar,av,af,as',aa⟩ ⟨nn,hnn,hcc⟩
  by_cases hg0:0<g
  ·refine And.intro (fun _=>?_) (fun h=>absurd hg0 h)
   obtain⟨hk,hg1,hg2⟩:(k=2∨k=3)∧1≤g∧g≤12:=by
    rcases hg.ok with h | h
    ·omega
    ·exact h
   refine⟨_,⟨by omega,(Pc.mk w o n m a b c).cells,hcell,rfl⟩,?_⟩
   refine(weights_c a b c k g hk ⟨by omega,hg2⟩).at fun r hr=>?_
   obtain⟨l,rfl,hl⟩:=hr
   refine⟨by show 0+1≤1;omega,[(Cs.mk (Cd.mk ao an ar av af as' aa) l).cells],rfl,?_⟩
   refine⟨by show 0+out.length≤(out.map Cs.cells).length;simp,out.map Cs.cells,takeAll (by simp),by show(out.length+1) * 152≤140737488355328;have:=k2.len;omega,(out++[Cs.mk (Cd.mk ao an ar av af as' aa) l]).map Cs.cells,by simp,?_⟩
   refine⟨((i+1:Nat):Int),by rw [Int.natCast_add];exact wrap_i64 (by omega) (by omega),?_⟩
   exact⟨(i+1,out++[Cs.mk (Cd.mk ao an ar av af as' aa) l]),⟨by show i+1≤3;omega,k2.snoc ⟨⟨nn,hnn,hcc⟩,(hl.nu hk)⟩⟩,ent_of [] [(1,4)] [] rfl ⟨rfl,rfl,rfl,rfl,⟨rfl,rfl⟩,congrArg (fun k:Nat=>AV.sl 4 11 0 k) (snoc_len out _).symm,rfl,trivial⟩ (sk) rfl,by show 3 - (i+1)<3 - i;omega⟩
  ·refine And.intro (fun h=>absurd h hg0) (fun _=>?_)
   refine⟨by show 0+1≤1;omega,[(Cs.mk (Cd.mk ao an ar av af as' aa) [(a.toNat:Int).tmod 201 - 100]).cells],rfl,?_⟩
   refine⟨by show 0+out.length≤(out.map Cs.cells).length;simp,out.map Cs.cells,takeAll (by simp),by show(out.length+1) * 152≤140737488355328;have:=k2.len;omega,(out++[Cs.mk (Cd.mk ao an ar av af as' aa) [(a.toNat:Int).tmod 201 - 100]]).map Cs.cells,by simp,?_⟩
   refine⟨((i+1:Nat):Int),by rw [Int.natCast_add];exact wrap_i64 (by omega) (by omega),?_⟩
   exact⟨(i+1,out++[Cs.mk (Cd.mk ao an ar av af as' aa) [(a.toNat:Int).tmod 201 - 100]]),⟨by show i+1≤3;omega,k2.snoc ⟨⟨nn,hnn,hcc⟩,(one_nu (by omega))⟩⟩,ent_of [] [(1,4)] [] rfl ⟨rfl,rfl,rfl,rfl,⟨rfl,rfl⟩,congrArg (fun k:Nat=>AV.sl 4 11 0 k) (snoc_len out _).symm,rfl,trivial⟩ (sk) rfl,by show 3 - (i+1)<3 - i;omega⟩
theorem pcases_c (p:Pt) (rs:List Rf) (cs:List Int) (h:RcS rs cs) (k:Nat) (g:Int) (hg:GrS k g) (hp:p.cases.length≤9223372036854775807):Pure cx 30 [.agg p.cells,rfl_ rs,ints cs,i64 (k:Int),i64 g] fun r=>∃ l,r=.ret [css l]∧RuS l:=
 (cases_c' p rs cs h k g hg hp).weak fun r hr=>by
  obtain⟨y,l,rfl,h1,h2⟩:=hr
  exact⟨.ret [css l],⟨_,rfl,_,_,rfl,h1,rfl⟩,l,rfl,h2⟩
structure Dp where
 grain:UInt8
 plate:UInt8
 nodes:List Pt
 choice:Pt
 gains:List Pt
 chooses:Bool
abbrev Dp.cells (d:Dp):List PV:=[u8 d.grain,u8 d.plate, .lsts 9 (d.nodes.map Pt.cells),u8 d.choice.kind,u8 d.choice.card,u8 d.choice.frm,u8 d.choice.modes, .bool d.choice.pl, .lsts 7 (d.choice.cases.map Pc.cells),u8 d.choice.x,u8 d.choice.y,u8 d.choice.z, .lsts 9 (d.gains.map Pt.cells), .bool d.chooses]
structure Dp.ok (d:Dp):Prop where
 nodes:d.nodes.length≤9223372036854775807
 gains:d.gains.length≤9223372036854775807
 ncases:∀ p∈d.nodes,p.cases.length≤9223372036854775807
 gcases:∀ p∈d.gains,p.cases.length≤9223372036854775807
def pt0:Pt:=⟨0,0,0,0,false,[],0,0,0⟩
theorem ptcell {l:List Pt} {k:Nat} (h:k<l.length):(l.map Pt.cells)[k]?=some (l.getD k pt0).cells:=map_at pt0 h
abbrev TKn:TypeId:=98
abbrev TSrc:TypeId:=39
def dpO (d:Dp):AObj:=⟨28,false, .bx (d.cells.map .p)⟩
def kwO (l:List Kn):AObj:=⟨TKn,false, .pus (l.map Kn.cells)⟩
def dyO (Y:List (List PV)):AObj:=⟨TDecl,false, .pus Y⟩
def s1O (v:AV):AObj:=⟨TSrc,false, .bx [v]⟩
theorem flat_iO (l:List Int):flatO (iO l):=⟨rfl,rfl,by
 show flatAL ((l.map i64).map .p)=true
 rw [flatPL_map]
 induction l with
 | nil=>rfl
 | cons a l ih=>simp only [List.map_cons,flatPL,ih,Bool.and_true];rfl⟩
theorem flat_rfs (l:List Rf):flatO (rfsO l):=⟨rfl,rfl,by
 show flatAL ((l.map Rf.cells).flatten.map .p)=true
 rw [flatPL_map]
 induction l with
 | nil=>rfl
 | cons a l ih=>
  rw [List.map_cons,List.flatten_cons]
  simp only [Rf.cells,List.cons_append,List.nil_append,flatPL,ih,Bool.and_true];rfl⟩
theorem nilLL_app:∀ {a b:List (List PV)} {c d:List (List PV)},NilDLL a c→NilDLL b d→NilDLL (a++b) (c++d)
 | [],b,c,d,h,k=>by
  simp only [NilDLL] at h
  subst h;exact k
 | x::a,b,c,d,h,k=>by
  simp only [NilDLL,List.cons_append] at h ⊢
  obtain⟨z,zs,rfl,h1,h2⟩:=h
  exact⟨z,zs++d,rfl,h1,nilLL_app h2 k⟩
theorem nilLL_one {a b:List PV} (h:NilDL a b):NilDLL [a] [b]:=by
 simp only [NilDLL]
 exact⟨_,_,rfl,h,rfl⟩
def KOrd:Bool→List De→Prop
 | false,ds=>∀ d∈ds,d.kind≤3
 | true,ds=>∃ A B,ds=A++B∧(∀ d∈A,d.kind≤3)∧∀ d∈B,4≤d.kind
theorem KOrd.up {b:Bool} {ds:List De} (h:KOrd b ds):KOrd true ds:=match b,h with
 | false,h=>⟨ds,[],(List.append_nil _).symm,h,fun _ hd=>by cases hd⟩
 | true,h=>h
structure PgS (b:Bool) (Y:List (List PV)) (n k:Nat):Prop where
 ds:∃ ds:List De,NilDLL Y (ds.map De.cells)∧PrS ds k∧ds.length=n∧KOrd b ds
theorem PgS.len {b:Bool} {Y:List (List PV)} {n k:Nat} (h:PgS b Y n k):Y.length=n:=by
 obtain⟨ds,h1,_,h3,_⟩:=h.ds
 have:=h1.len
 rw [List.length_map] at this
 omega
theorem PgS.snoc {Y:List (List PV)} {n k j:Nat} {c:List PV} {d:De} (h:PgS false Y n k) (hc:NilDL c d.cells) (hd:DeS d j) (hk:d.kind≤3):PgS false (Y++[c]) (n+1) (k+j):=by
 obtain⟨ds,h1,h2,h3,h4⟩:=h.ds
 refine⟨ds++[d],?_,h2.snoc hd,by rw [List.length_append,h3];rfl,fun x hx=>?_⟩
 ·rw [List.map_append]
  exact nilLL_app h1 (nilLL_one hc)
 ·rcases List.mem_append.1 hx with hx | hx
  ·exact h4 x hx
  ·rw [List.mem_singleton.1 hx];exact hk
theorem PgS.snocT {b:Bool} {Y:List (List PV)} {n k j:Nat} {c:List PV} {d:De} (h:PgS b Y n k) (hc:NilDL c d.cells) (hd:DeS d j) (hk:4≤d.kind):PgS true (Y++[c]) (n+1) (k+j):=by
 obtain⟨ds,h1,h2,h3,h4⟩:=h.ds
 obtain⟨A,B,rfl,hA,hB⟩:=h4.up
 refine⟨(A++B)++[d],?_,h2.snoc hd,by rw [List.length_append,h3];rfl,A,B++[d],List.append_assoc ..,hA,fun x hx=>?_⟩
 ·rw [List.map_append]
  exact nilLL_app h1 (nilLL_one hc)
 ·rcases List.mem_append.1 hx with hx | hx
  ·exact hB x hx
  ·rw [List.mem_singleton.1 hx];exact hk
theorem PgS.up {b:Bool} {Y:List (List PV)} {n k:Nat} (h:PgS b Y n k):PgS true Y n k:=by
 obtain⟨ds,h1,h2,h3,h4⟩:=h.ds
 exact⟨ds,h1,h2,h3,h4.up⟩
theorem PgS.le {b:Bool} {Y:List (List PV)} {n k k':Nat} (h:PgS b Y n k) (hk:k≤k'):PgS b Y n k':=by
 obtain⟨ds,h1,h2,h3,h4⟩:=h.ds
 exact⟨ds,h1,h2.le hk,h3,h4⟩
theorem nil_dk {k n:Int} {nm pl:List UInt8} {a b a' b':PV} (h1:NilD a a') (h2:NilD b b'):NilDL [i64 k,i64 n, .str nm, .str pl,a,b] [i64 k,i64 n, .str nm, .str pl,a',b']:=by
 simp only [NilDL]
 exact⟨_,_,rfl,NilD.refl _,_,_,rfl,NilD.refl _,_,_,rfl,NilD.refl _,_,_,rfl,NilD.refl _,_,_,rfl,h1,_,_,rfl,h2,rfl⟩
theorem nil_n0 (s:Nat):NilD .nils (.lsts s []):=by
 simp only [NilD]
 exact .inr (.inr ⟨s,rfl⟩)
theorem pg_two {g s:Int} (hg:0≤g∧g≤12) (hs:0≤s∧s≤2):PgS false [[i64 1,i64 g, .str [], .str [], .nils, .nils],[i64 2,i64 s, .str [112], .str [], .nils, .nils]] 2 22:=by
 have h0:PgS false [] 0 0:=⟨[],by simp only [NilDLL,List.map_nil],PrS.nil,rfl,fun _ hd=>by cases hd⟩
 have h1:=h0.snoc (d:=⟨1,g,[],[],[],[]⟩) (nil_dk (nil_n0 4) (nil_n0 11)) (grain_ok (nat_of hg.1 (by omega))) (by show(1:Int)≤3;decide)
 exact h1.snoc (d:=⟨2,s,[112],[],[],[]⟩) (nil_dk (nil_n0 4) (nil_n0 11)) (plate_ok (nat_of hs.1 (by omega))) (by show(2:Int)≤3;decide)
abbrev otP1:OT:=(.pure 0 (.pure 1 (.pure 2 (.pure 3 (.pure 4 (.pure 5 (.pure 6 (.pure 7 (.pure 8 (.pure 9 (.pure 10 (.pure 11 .fin))))))))))))
abbrev otP15:OT:=(.pure 0 (.pure 1 (.pure 2 (.pure 3 (.pure 4 (.pure 5 (.pure 6 (.pure 7 (.pure 8 (.pure 9 (.pure 10 (.pure 11 (.pure 12 (.pure 13 (.eff 14 [1] (.pure 15 (.eff 16 [1] (.eff 17 [] (.pure 18 (.eff 19 [] .fin .nil)) .nil) .nil)) .nil)))))))))))))))
abbrev otP16:OT:=(.pure 0 (.pure 1 (.pure 2 (.pure 3 (.pure 4 (.pure 5 (.pure 6 (.pure 7 (.pure 8 (.eff 9 [] (.eff 10 [] (.pure 11 .fin) .nil) .nil))))))))))
abbrev otP25:OT:=(.pure 0 (.pure 1 (.pure 2 (.pure 3 (.pure 4 (.pure 5 (.pure 6 (.pure 7 (.pure 8 (.pure 9 (.eff 10 [1] (.pure 11 (.eff 12 [1] (.eff 13 [] (.pure 14 (.eff 15 [] .fin .nil)) .nil) .nil)) .nil)))))))))))
def PqQ (r:PEnd):Prop:=∃ (Y:List (List PV)) (n k:Nat),r=.ret [.agg [.lsts 6 Y]]∧PgS true Y n k∧n≤20∧k≤1300∧2≤n
structure LkS (l:List Kn) (i:Nat):Prop where
 ok:∀ k∈l,KnS k
 len:l.length=i
theorem LkS.snoc {l:List Kn} {i:Nat} {k:Kn} (h:LkS l i) (hk:KnS k):LkS (l++[k]) (i+1):=by
 refine⟨fun x hx=>?_,by rw [List.length_append,h.len];rfl⟩
 rcases List.mem_append.1 hx with hx | hx
 ·exact h.ok x hx
 ·rw [List.mem_singleton.1 hx];exact hk
def nmI (i:Nat):List UInt8:=(([97,98,99,100]:List UInt8).drop i).take (i+1 - i)
theorem nmI_ok:∀ i,i<4→nameN (nmI i)=true∧(nmI i).length=1:=by decide
theorem lendT {C:Cx} {g:FuncId} {pargs:List PV} {args:List AV} {H:Hp} {Q0 Q:AE→Hp→Prop} (h:Holds C g (pargs.map .p) ⟨0,[]⟩ Q0) (fs:List Nat) (hm:marksOK H.l fs=true) (ha:ResL (Res (marks H.l fs) 5) args pargs)
  (hQ:∀ e0 H0',Q0 e0 H0'→(nodupK H0'.l && flatAE e0)=true∧flatOs H0'.l∧∃ e H2,renE (rmap 0 [] 0 H.next) e0=e∧(⟨H.next+H0'.next,renH (rmap 0 [] 0 H.next) H0'.l++H.l⟩:Hp)=H2∧Q e H2):Holds C g args H Q:=
 h.lendN fs hm ha fun e0 H0 hq=>by
  obtain⟨h1,h2,e,H2,rfl,rfl,h3⟩:=hQ e0 H0 hq
  exact⟨h1,h2,h3⟩
theorem program_c' (d:Dp) (hd:d.ok):Pure cx 9 [.agg d.cells] PqQ:=by
 refine pure_of_vc Tryz.func9 rfl rfl rfl ?_
 obtain⟨gr,pt,ns,ch,gs,cz⟩:=d
 obtain⟨hd1,hd2,hd3,hd4⟩:=hd
 simp only [] at hd1 hd2 hd3 hd4
 have hns:(ns.map Pt.cells).length=ns.length:=List.length_map ..
 have hgs:(gs.map Pt.cells).length=gs.length:=List.length_map ..
 have hgr:=gr.toNat_lt
 have hpt:=pt.toNat_lt
 refine vdraw_ot otP1 (by kernel_rfl) ?_
 refine⟨by decide,?_⟩
 refine⟨((gr.toNat % 12:Nat):Int),by show _=IntKind.i64.wrap ((gr.toNat:Int).tmod 12);rw [show(gr.toNat:Int).tmod 12=((gr.toNat % 12:Nat):Int) from rfl];exact wrap_i64 (by omega) (by omega),?_⟩
 obtain⟨g,hge⟩:∃ g:Int,g=1+((gr.toNat % 12:Nat):Int):=⟨_,rfl⟩
 refine⟨g,by rw [hge];exact wrap_i64 (by omega) (by omega),?_⟩
 refine⟨by decide,?_⟩
 refine⟨((pt.toNat % 2:Nat):Int),by show _=IntKind.i64.wrap ((pt.toNat:Int).tmod 2);rw [show(pt.toNat:Int).tmod 2=((pt.toNat % 2:Nat):Int) from rfl];exact wrap_i64 (by omega) (by omega),?_⟩
 obtain⟨sz,hse⟩:∃ s:Int,s=1+((pt.toNat % 2:Nat):Int):=⟨_,rfl⟩
 refine⟨sz,by rw [hse];exact wrap_i64 (by omega) (by omega),?_⟩
 have hg:1≤g∧g≤12:=by omega
 have hs:sz=1∨sz=2:=by omega
 clear hge hse
 have hp2:=pg_two (g:=g) (s:=sz) (by omega) (by omega)
 refine⟨Nat × List (List PV) × List Kn,fun x=>[(1, .ptr 0 0 0),(2, .ptr 1 0 0),(3, .p (i64 g)),(4, .p (i64 sz)),(5, .ptr 3 0 0),(6, .sl 4 3 0 x.1),(7, .p (i64 x.1))],fun x=>⟨5,[(4,kwO x.2.2),(3,s1O (.sl 2 6 0 (2+x.1))),(2,dyO x.2.1),(1,s1O (.p .nils)),(0,dpO ⟨gr,pt,ns,ch,gs,cz⟩)]⟩,fun x=>x.1≤4∧PgS false x.2.1 (2+x.1) (22+201 * x.1)∧LkS x.2.2 x.1,fun x=>4 - x.1,?_,?_⟩
 ·exact⟨(0,_,[]),⟨by show 0≤4;decide,hp2,⟨fun k hk=>(by cases hk),rfl⟩⟩,ent_of [] [] [(4,3)] rfl (sk) (sk) rfl⟩
 rintro⟨i,Y,l⟩ ⟨k1,k2,k3⟩
 simp only [] at k1 k2 k3
 have hY:=k2.len
 have hL:=k3.len
 by_cases ha:i<ns.length∧i<4
 rotate_left
 ·cases cz
  ·by_cases hi:i<ns.length
   ·refine And.intro (fun _=>?_) (fun h=>absurd (show(i:Int)<((ns.map Pt.cells).length:Nat) by rw [hns];omega) h)
    refine And.intro (fun h=>absurd (show(i:Int)<4 from h) (by omega)) (fun _=>?_)
    exact end1 (.agg [.lsts 6 Y]) rfl ⟨_,rfl,_,_,rfl,⟨_,rfl,by show 0+(2+i)≤Y.length;omega,takeAll (by omega)⟩,rfl⟩ ⟨_,_,_,rfl,k2.up,by omega,by omega,by omega⟩
   ·refine And.intro (fun h=>absurd (show(i:Int)<((ns.map Pt.cells).length:Nat) from h) (by rw [hns];omega)) (fun _=>?_)
    exact end1 (.agg [.lsts 6 Y]) rfl ⟨_,rfl,_,_,rfl,⟨_,rfl,by show 0+(2+i)≤Y.length;omega,takeAll (by omega)⟩,rfl⟩ ⟨_,_,_,rfl,k2.up,by omega,by omega,by omega⟩
  ·by_cases hi:i<ns.length
   ·refine And.intro (fun _=>?_) (fun h=>absurd (show(i:Int)<((ns.map Pt.cells).length:Nat) by rw [hns];omega) h)
    refine And.intro (fun h=>absurd (show(i:Int)<4 from h) (by omega)) (fun _=>?_)
    refine lendT (pargs:=[.agg (ch).cells, .lsts 3 ((l).map Kn.cells), .bool false,i64 sz]) (prefs_h ch (l) (k3).ok (by have:=(k3).len;omega) false sz hs).holds [4] rfl ⟨_,_,rfl,rfl,_,_,rfl,⟨_,rfl,by show 0+(i)≤((l).map Kn.cells).length;rw [List.length_map];have:=(k3).len;omega,takeAll (by rw [List.length_map];have:=(k3).len;omega)⟩,_,_,rfl,rfl,_,_,rfl,rfl,rfl⟩ fun e0 H0 hq=>?_
    obtain⟨rs,cs,rfl,rfl,hrc⟩:=hq
    refine⟨rfl,⟨flat_rfs _,flat_iO _,trivial⟩,_,⟨7,(5,rfsO rs)::(6,iO cs)::[(4,kwO l),(3,s1O (.sl 2 6 0 (2+i))),(2,dyO Y),(1,s1O (.p .nils)),(0,dpO ⟨gr,pt,ns,ch,gs,true⟩)]⟩,rfl,rfl,?_⟩
    refine⟨by show 0+1≤1;omega,_,rfl, .inl ⟨[5],[[i64 4,i64 2, .str [101], .str [],rfl_ rs, .nils]],rfl,⟨_,_,rfl,⟨_,_,rfl,rfl,_,_,rfl,rfl,_,_,rfl,rfl,_,_,rfl,rfl,_,_,rfl,⟨_,rfl,by show 0+rs.length≤(rs.map Rf.cells).length;simp,takeAll (by simp)⟩,_,_,rfl,(by first | exact rfl | exact .inl rfl),rfl⟩,rfl⟩,?_⟩⟩
    refine⟨by show 0+(2+i)≤Y.length;omega,Y,takeAll (by omega),by show(2+i+1) * 96≤140737488355328;omega,Y++[[i64 4,i64 2, .str [101], .str [],rfl_ rs, .nils]],rfl,?_⟩
    refine⟨by show 0+1≤1;omega,[((Kn.mk [101] 2 false)).cells],rfl,?_⟩
    refine⟨by show 0+i≤(l.map Kn.cells).length;rw [List.length_map];omega,l.map Kn.cells,takeAll (by rw [List.length_map];omega),by show(i+1) * 32≤140737488355328;omega,(l++[(Kn.mk [101] 2 false)]).map Kn.cells,by simp,?_⟩
    have k4:=k2.snocT (d:=⟨4,2,[101],[],rs,[]⟩) (nil_dk (NilD.refl _) (nil_n0 11)) (choose_ok (n:=2) (nm:=[101]) (by decide) (by decide) (by decide) hrc.refs hrc.len) (by show(4:Int)≤4;decide)
    have k5:LkS (l++[Kn.mk [101] 2 false]) (i+1):=k3.snoc ⟨by show nameN [101]=true;decide,rfl, .inl rfl⟩
    clear k2 k3 hp2 ha hY hL
    generalize Y++[[i64 4,i64 2, .str [101], .str [],rfl_ rs, .nils]]=Y at k4 ⊢
    generalize l++[Kn.mk [101] 2 false]=l at k5 ⊢
    refine⟨Nat × List (List PV),fun x=>[(1, .ptr 0 0 0),(2, .ptr 1 0 0),(4, .p (i64 sz)),(5, .ptr 3 0 0),(6, .sl 4 3 0 (i+1)),(15, .p (i64 x.1))],fun x=>⟨5,[(4,kwO l),(3,s1O (.sl 2 6 0 (2+i+1+x.1))),(2,dyO x.2),(1,s1O (.p .nils)),(0,dpO ⟨gr,pt,ns,ch,gs,true⟩)]⟩,fun x=>x.1≤2∧PgS true x.2 (2+i+1+x.1) (22+201 * i+33+192 * x.1),fun x=>2 - x.1,?_,?_⟩
    ·exact⟨(0,Y),⟨by show 0≤2;decide,k4⟩,ent_of [] [(2,8),(4,10)] [] rfl (sk) (sk) rfl⟩
    rintro⟨j,Y⟩ ⟨j1,k2⟩
    simp only [] at j1 k2
    have hY:=k2.len
    by_cases hb:j<gs.length∧j<2
    rotate_left
    ·by_cases hj:j<gs.length
     ·refine And.intro (fun _=>?_) (fun h=>absurd (show(j:Int)<((gs.map Pt.cells).length:Nat) by rw [hgs];omega) h)
      refine And.intro (fun h=>absurd (show(j:Int)<2 from h) (by omega)) (fun _=>?_)
      exact end1 (.agg [.lsts 6 Y]) rfl ⟨_,rfl,_,_,rfl,⟨_,rfl,by show 0+(2+i+1+j)≤Y.length;omega,takeAll (by omega)⟩,rfl⟩ ⟨_,_,_,rfl,k2.up,by omega,by omega,by omega⟩
     ·refine And.intro (fun h=>absurd (show(j:Int)<((gs.map Pt.cells).length:Nat) from h) (by rw [hgs];omega)) (fun _=>?_)
      exact end1 (.agg [.lsts 6 Y]) rfl ⟨_,rfl,_,_,rfl,⟨_,rfl,by show 0+(2+i+1+j)≤Y.length;omega,takeAll (by omega)⟩,rfl⟩ ⟨_,_,_,rfl,k2.up,by omega,by omega,by omega⟩
    obtain⟨hj,hj2⟩:=hb
    have hcell:=ptcell hj
    have hpc:=hd4 _ (getD_memL pt0 hj)
    generalize gs.getD j pt0=p at hcell hpc
    obtain⟨kind,card,frm,modes,pl,ps,x,y,z⟩:=p
    refine And.intro (fun _=>?_) (fun h=>absurd (show(j:Int)<((gs.map Pt.cells).length:Nat) by rw [hgs];omega) h)
    refine And.intro (fun _=>?_) (fun h=>absurd (show(j:Int)<2 by omega) h)
    refine⟨_,⟨by omega,(Pt.mk kind card frm modes pl ps x y z).cells,hcell,rfl⟩,?_⟩
    refine lendT (pargs:=[.agg ((Pt.mk kind card frm modes pl ps x y z)).cells, .lsts 3 ((l).map Kn.cells), .bool false,i64 sz]) (prefs_h (Pt.mk kind card frm modes pl ps x y z) (l) (k5).ok (by have:=(k5).len;omega) false sz hs).holds [4] rfl ⟨_,_,rfl,rfl,_,_,rfl,⟨_,rfl,by show 0+(i+1)≤((l).map Kn.cells).length;rw [List.length_map];have:=(k5).len;omega,takeAll (by rw [List.length_map];have:=(k5).len;omega)⟩,_,_,rfl,rfl,_,_,rfl,rfl,rfl⟩ fun e0 H0 hq=>?_
    obtain⟨rs,cs,rfl,rfl,hrc⟩:=hq
    refine⟨rfl,⟨flat_rfs _,flat_iO _,trivial⟩,_,⟨7,(5,rfsO rs)::(6,iO cs)::[(4,kwO l),(3,s1O (.sl 2 6 0 (2+i+1+j))),(2,dyO Y),(1,s1O (.p .nils)),(0,dpO ⟨gr,pt,ns,ch,gs,true⟩)]⟩,rfl,rfl,?_⟩
    refine vdraw_ot otP25 (by kernel_rfl) ?_
    refine⟨_,⟨by omega,(Pt.mk kind card frm modes pl ps x y z).cells,hcell,rfl⟩,?_⟩
    refine(pcases_c _ rs cs hrc 0 0 ⟨.inl ⟨rfl,rfl⟩⟩ hpc).use [5,6] rfl ⟨_,_,rfl,rfl,_,_,rfl,⟨_,rfl,by show 0+rs.length≤(rs.map Rf.cells).length;simp,takeAll (by simp)⟩,_,_,rfl,⟨_,rfl,by show 0+cs.length≤(cs.map i64).length;simp,takeAll (by simp)⟩,_,_,rfl,rfl,_,_,rfl,rfl,rfl⟩ fun r hr=>?_
    obtain⟨L,rfl,hLs⟩:=hr
    refine⟨⟨rfl,trivial⟩,?_⟩
    refine⟨⟨rfl,trivial⟩,?_⟩
    refine⟨by show 0+1≤1;omega,_,rfl, .inl ⟨[],[[i64 5,i64 0, .str [], .str [],rfl_ rs,(css L)]],rfl,⟨_,_,rfl,⟨_,_,rfl,rfl,_,_,rfl,rfl,_,_,rfl,rfl,_,_,rfl,rfl,_,_,rfl,⟨_,rfl,by show 0+rs.length≤(rs.map Rf.cells).length;simp,takeAll (by simp)⟩,_,_,rfl,(by first | exact rfl | exact .inl rfl),rfl⟩,rfl⟩,?_⟩⟩
    refine⟨by show 0+(2+i+1+j)≤Y.length;omega,Y,takeAll (by omega),by show(2+i+1+j+1) * 96≤140737488355328;omega,Y++[[i64 5,i64 0, .str [], .str [],rfl_ rs,(css L)]],rfl,?_⟩
    refine⟨((j+1:Nat):Int),by rw [Int.natCast_add];exact wrap_i64 (by omega) (by omega),?_⟩
    exact⟨(j+1,Y++[[i64 5,i64 0, .str [], .str [],rfl_ rs,css L]]),⟨by show j+1≤2;omega,(k2.snocT (d:=⟨5,0,[],[],rs,L⟩) (NilDL.refl _) (gain_ok hrc.refs hrc.len hLs) (by show(4:Int)≤5;decide)).le (by show 22+201 * i+33+192 * j+192≤22+201 * i+33+192 * (j+1);omega)⟩,ent_of [] [(2,8)] [] rfl (sk) (sk) rfl,by show 2 - (j+1)<2 - j;omega⟩
   ·refine And.intro (fun h=>absurd (show(i:Int)<((ns.map Pt.cells).length:Nat) from h) (by rw [hns];omega)) (fun _=>?_)
    refine lendT (pargs:=[.agg (ch).cells, .lsts 3 ((l).map Kn.cells), .bool false,i64 sz]) (prefs_h ch (l) (k3).ok (by have:=(k3).len;omega) false sz hs).holds [4] rfl ⟨_,_,rfl,rfl,_,_,rfl,⟨_,rfl,by show 0+(i)≤((l).map Kn.cells).length;rw [List.length_map];have:=(k3).len;omega,takeAll (by rw [List.length_map];have:=(k3).len;omega)⟩,_,_,rfl,rfl,_,_,rfl,rfl,rfl⟩ fun e0 H0 hq=>?_
    obtain⟨rs,cs,rfl,rfl,hrc⟩:=hq
    refine⟨rfl,⟨flat_rfs _,flat_iO _,trivial⟩,_,⟨7,(5,rfsO rs)::(6,iO cs)::[(4,kwO l),(3,s1O (.sl 2 6 0 (2+i))),(2,dyO Y),(1,s1O (.p .nils)),(0,dpO ⟨gr,pt,ns,ch,gs,true⟩)]⟩,rfl,rfl,?_⟩
    refine⟨by show 0+1≤1;omega,_,rfl, .inl ⟨[5],[[i64 4,i64 2, .str [101], .str [],rfl_ rs, .nils]],rfl,⟨_,_,rfl,⟨_,_,rfl,rfl,_,_,rfl,rfl,_,_,rfl,rfl,_,_,rfl,rfl,_,_,rfl,⟨_,rfl,by show 0+rs.length≤(rs.map Rf.cells).length;simp,takeAll (by simp)⟩,_,_,rfl,(by first | exact rfl | exact .inl rfl),rfl⟩,rfl⟩,?_⟩⟩
    refine⟨by show 0+(2+i)≤Y.length;omega,Y,takeAll (by omega),by show(2+i+1) * 96≤140737488355328;omega,Y++[[i64 4,i64 2, .str [101], .str [],rfl_ rs, .nils]],rfl,?_⟩
    refine⟨by show 0+1≤1;omega,[((Kn.mk [101] 2 false)).cells],rfl,?_⟩
    refine⟨by show 0+i≤(l.map Kn.cells).length;rw [List.length_map];omega,l.map Kn.cells,takeAll (by rw [List.length_map];omega),by show(i+1) * 32≤140737488355328;omega,(l++[(Kn.mk [101] 2 false)]).map Kn.cells,by simp,?_⟩
    have k4:=k2.snocT (d:=⟨4,2,[101],[],rs,[]⟩) (nil_dk (NilD.refl _) (nil_n0 11)) (choose_ok (n:=2) (nm:=[101]) (by decide) (by decide) (by decide) hrc.refs hrc.len) (by show(4:Int)≤4;decide)
    have k5:LkS (l++[Kn.mk [101] 2 false]) (i+1):=k3.snoc ⟨by show nameN [101]=true;decide,rfl, .inl rfl⟩
    clear k2 k3 hp2 ha hY hL
    generalize Y++[[i64 4,i64 2, .str [101], .str [],rfl_ rs, .nils]]=Y at k4 ⊢
    generalize l++[Kn.mk [101] 2 false]=l at k5 ⊢
    refine⟨Nat × List (List PV),fun x=>[(1, .ptr 0 0 0),(2, .ptr 1 0 0),(4, .p (i64 sz)),(5, .ptr 3 0 0),(6, .sl 4 3 0 (i+1)),(15, .p (i64 x.1))],fun x=>⟨5,[(4,kwO l),(3,s1O (.sl 2 6 0 (2+i+1+x.1))),(2,dyO x.2),(1,s1O (.p .nils)),(0,dpO ⟨gr,pt,ns,ch,gs,true⟩)]⟩,fun x=>x.1≤2∧PgS true x.2 (2+i+1+x.1) (22+201 * i+33+192 * x.1),fun x=>2 - x.1,?_,?_⟩
    ·exact⟨(0,Y),⟨by show 0≤2;decide,k4⟩,ent_of [] [(2,8),(4,10)] [] rfl (sk) (sk) rfl⟩
    rintro⟨j,Y⟩ ⟨j1,k2⟩
    simp only [] at j1 k2
    have hY:=k2.len
    by_cases hb:j<gs.length∧j<2
    rotate_left
    ·by_cases hj:j<gs.length
     ·refine And.intro (fun _=>?_) (fun h=>absurd (show(j:Int)<((gs.map Pt.cells).length:Nat) by rw [hgs];omega) h)
      refine And.intro (fun h=>absurd (show(j:Int)<2 from h) (by omega)) (fun _=>?_)
      exact end1 (.agg [.lsts 6 Y]) rfl ⟨_,rfl,_,_,rfl,⟨_,rfl,by show 0+(2+i+1+j)≤Y.length;omega,takeAll (by omega)⟩,rfl⟩ ⟨_,_,_,rfl,k2.up,by omega,by omega,by omega⟩
     ·refine And.intro (fun h=>absurd (show(j:Int)<((gs.map Pt.cells).length:Nat) from h) (by rw [hgs];omega)) (fun _=>?_)
      exact end1 (.agg [.lsts 6 Y]) rfl ⟨_,rfl,_,_,rfl,⟨_,rfl,by show 0+(2+i+1+j)≤Y.length;omega,takeAll (by omega)⟩,rfl⟩ ⟨_,_,_,rfl,k2.up,by omega,by omega,by omega⟩
    obtain⟨hj,hj2⟩:=hb
    have hcell:=ptcell hj
    have hpc:=hd4 _ (getD_memL pt0 hj)
    generalize gs.getD j pt0=p at hcell hpc
    obtain⟨kind,card,frm,modes,pl,ps,x,y,z⟩:=p
    refine And.intro (fun _=>?_) (fun h=>absurd (show(j:Int)<((gs.map Pt.cells).length:Nat) by rw [hgs];omega) h)
    refine And.intro (fun _=>?_) (fun h=>absurd (show(j:Int)<2 by omega) h)
    refine⟨_,⟨by omega,(Pt.mk kind card frm modes pl ps x y z).cells,hcell,rfl⟩,?_⟩
    refine lendT (pargs:=[.agg ((Pt.mk kind card frm modes pl ps x y z)).cells, .lsts 3 ((l).map Kn.cells), .bool false,i64 sz]) (prefs_h (Pt.mk kind card frm modes pl ps x y z) (l) (k5).ok (by have:=(k5).len;omega) false sz hs).holds [4] rfl ⟨_,_,rfl,rfl,_,_,rfl,⟨_,rfl,by show 0+(i+1)≤((l).map Kn.cells).length;rw [List.length_map];have:=(k5).len;omega,takeAll (by rw [List.length_map];have:=(k5).len;omega)⟩,_,_,rfl,rfl,_,_,rfl,rfl,rfl⟩ fun e0 H0 hq=>?_
    obtain⟨rs,cs,rfl,rfl,hrc⟩:=hq
    refine⟨rfl,⟨flat_rfs _,flat_iO _,trivial⟩,_,⟨7,(5,rfsO rs)::(6,iO cs)::[(4,kwO l),(3,s1O (.sl 2 6 0 (2+i+1+j))),(2,dyO Y),(1,s1O (.p .nils)),(0,dpO ⟨gr,pt,ns,ch,gs,true⟩)]⟩,rfl,rfl,?_⟩
    refine vdraw_ot otP25 (by kernel_rfl) ?_
    refine⟨_,⟨by omega,(Pt.mk kind card frm modes pl ps x y z).cells,hcell,rfl⟩,?_⟩
    refine(pcases_c _ rs cs hrc 0 0 ⟨.inl ⟨rfl,rfl⟩⟩ hpc).use [5,6] rfl ⟨_,_,rfl,rfl,_,_,rfl,⟨_,rfl,by show 0+rs.length≤(rs.map Rf.cells).length;simp,takeAll (by simp)⟩,_,_,rfl,⟨_,rfl,by show 0+cs.length≤(cs.map i64).length;simp,takeAll (by simp)⟩,_,_,rfl,rfl,_,_,rfl,rfl,rfl⟩ fun r hr=>?_
    obtain⟨L,rfl,hLs⟩:=hr
    refine⟨⟨rfl,trivial⟩,?_⟩
    refine⟨⟨rfl,trivial⟩,?_⟩
    refine⟨by show 0+1≤1;omega,_,rfl, .inl ⟨[],[[i64 5,i64 0, .str [], .str [],rfl_ rs,(css L)]],rfl,⟨_,_,rfl,⟨_,_,rfl,rfl,_,_,rfl,rfl,_,_,rfl,rfl,_,_,rfl,rfl,_,_,rfl,⟨_,rfl,by show 0+rs.length≤(rs.map Rf.cells).length;simp,takeAll (by simp)⟩,_,_,rfl,(by first | exact rfl | exact .inl rfl),rfl⟩,rfl⟩,?_⟩⟩
    refine⟨by show 0+(2+i+1+j)≤Y.length;omega,Y,takeAll (by omega),by show(2+i+1+j+1) * 96≤140737488355328;omega,Y++[[i64 5,i64 0, .str [], .str [],rfl_ rs,(css L)]],rfl,?_⟩
    refine⟨((j+1:Nat):Int),by rw [Int.natCast_add];exact wrap_i64 (by omega) (by omega),?_⟩
    exact⟨(j+1,Y++[[i64 5,i64 0, .str [], .str [],rfl_ rs,css L]]),⟨by show j+1≤2;omega,(k2.snocT (d:=⟨5,0,[],[],rs,L⟩) (NilDL.refl _) (gain_ok hrc.refs hrc.len hLs) (by show(4:Int)≤5;decide)).le (by show 22+201 * i+33+192 * j+192≤22+201 * i+33+192 * (j+1);omega)⟩,ent_of [] [(2,8)] [] rfl (sk) (sk) rfl,by show 2 - (j+1)<2 - j;omega⟩
 obtain⟨hi,hi4⟩:=ha
 have hcell:=ptcell hi
 have hpc:=hd3 _ (getD_memL pt0 hi)
 generalize ns.getD i pt0=p at hcell hpc
 obtain⟨kind,card,frm,modes,pl,ps,x,y,z⟩:=p
 have hcd:=card.toNat_lt
 have hnm:=nmI_ok i hi4
 refine And.intro (fun _=>?_) (fun h=>absurd (show(i:Int)<((ns.map Pt.cells).length:Nat) by rw [hns];omega) h)
 refine And.intro (fun _=>?_) (fun h=>absurd (show(i:Int)<4 by omega) h)
 cases pl
 ·refine⟨_,⟨by omega,(Pt.mk kind card frm modes false ps x y z).cells,hcell,rfl⟩,?_⟩
  refine⟨by decide,?_⟩
  refine⟨((card.toNat % 2:Nat):Int),by show _=IntKind.i64.wrap ((card.toNat:Int).tmod 2);rw [show(card.toNat:Int).tmod 2=((card.toNat % 2:Nat):Int) from rfl];exact wrap_i64 (by omega) (by omega),?_⟩
  obtain⟨kk,hkk⟩:∃ kk,kk=2+card.toNat % 2:=⟨_,rfl⟩
  refine⟨((kk:Nat):Int),by rw [hkk,Int.natCast_add];exact wrap_i64 (by omega) (by omega),?_⟩
  refine lendT (pargs:=[.agg ((Pt.mk kind card frm modes false ps x y z)).cells, .lsts 3 ((l).map Kn.cells), .bool false,i64 sz]) (prefs_h (Pt.mk kind card frm modes false ps x y z) (l) (k3).ok (by have:=(k3).len;omega) false sz hs).holds [4] rfl ⟨_,_,rfl,rfl,_,_,rfl,⟨_,rfl,by show 0+(i)≤((l).map Kn.cells).length;rw [List.length_map];have:=(k3).len;omega,takeAll (by rw [List.length_map];have:=(k3).len;omega)⟩,_,_,rfl,rfl,_,_,rfl,rfl,rfl⟩ fun e0 H0 hq=>?_
  obtain⟨rs,cs,rfl,rfl,hrc⟩:=hq
  refine⟨rfl,⟨flat_rfs _,flat_iO _,trivial⟩,_,⟨8,(6,rfsO rs)::(7,iO cs)::((5,ptO (Pt.mk kind card frm modes false ps x y z))::[(4,kwO l),(3,s1O (.sl 2 6 0 (2+i))),(2,dyO Y),(1,s1O (.p .nils)),(0,dpO ⟨gr,pt,ns,ch,gs,cz⟩)])⟩,rfl,rfl,?_⟩
  refine vdraw_ot otP15 (by kernel_rfl) ?_
  refine⟨((i+1:Nat):Int),by rw [Int.natCast_add];exact wrap_i64 (by omega) (by omega),?_⟩
  refine⟨by show(0:Int)≤(i:Nat)∧((i:Nat):Int)≤((i+1:Nat):Int)∧((i+1:Nat):Int)≤4;omega,?_⟩
  refine(pcases_c _ rs cs hrc kk g ⟨.inr ⟨by omega,hg⟩⟩ hpc).use [6,7] rfl ⟨_,_,rfl,rfl,_,_,rfl,⟨_,rfl,by show 0+rs.length≤(rs.map Rf.cells).length;simp,takeAll (by simp)⟩,_,_,rfl,⟨_,rfl,by show 0+cs.length≤(cs.map i64).length;simp,takeAll (by simp)⟩,_,_,rfl,rfl,_,_,rfl,rfl,rfl⟩ fun r hr=>?_
  obtain⟨L,rfl,hLs⟩:=hr
  refine⟨⟨rfl,trivial⟩,?_⟩
  refine⟨⟨rfl,trivial⟩,?_⟩
  refine⟨by show 0+1≤1;omega,_,rfl, .inl ⟨[],[[i64 3,i64 ((kk:Nat):Int), .str (nmI i), .str [],rfl_ rs,(css L)]],rfl,⟨_,_,rfl,⟨_,_,rfl,rfl,_,_,rfl,rfl,_,_,rfl,rfl,_,_,rfl,rfl,_,_,rfl,⟨_,rfl,by show 0+rs.length≤(rs.map Rf.cells).length;simp,takeAll (by simp)⟩,_,_,rfl,(by first | exact rfl | exact .inl rfl),rfl⟩,rfl⟩,?_⟩⟩
  refine⟨by show 0+(2+i)≤Y.length;omega,Y,takeAll (by omega),by show(2+i+1) * 96≤140737488355328;omega,Y++[[i64 3,i64 ((kk:Nat):Int), .str (nmI i), .str [],rfl_ rs,(css L)]],rfl,?_⟩
  refine vdraw_ot otP16 (by kernel_rfl) ?_
  refine⟨((i+1:Nat):Int),by rw [Int.natCast_add];exact wrap_i64 (by omega) (by omega),?_⟩
  refine⟨by show(0:Int)≤(i:Nat)∧((i:Nat):Int)≤((i+1:Nat):Int)∧((i+1:Nat):Int)≤4;omega,?_⟩
  refine⟨by show 0+1≤1;omega,[((Kn.mk (nmI i) ((kk:Nat):Int) false)).cells],rfl,?_⟩
  refine⟨by show 0+i≤(l.map Kn.cells).length;rw [List.length_map];omega,l.map Kn.cells,takeAll (by rw [List.length_map];omega),by show(i+1) * 32≤140737488355328;omega,(l++[(Kn.mk (nmI i) ((kk:Nat):Int) false)]).map Kn.cells,by simp,?_⟩
  refine⟨((i+1:Nat):Int),by rw [Int.natCast_add];exact wrap_i64 (by omega) (by omega),?_⟩
  exact⟨(i+1,Y++[[i64 3,i64 ((kk:Nat):Int), .str (nmI i), .str [],rfl_ rs,css L]],l++[Kn.mk (nmI i) ((kk:Nat):Int) false]),⟨by show i+1≤4;omega,(k2.snoc (d:=⟨3,((kk:Nat):Int),nmI i,[],rs,L⟩) (NilDL.refl _) (node_ok (n:=((kk:Nat):Int)) (nat_of (by omega) (by omega)) hnm.1 hnm.2 (.inl rfl) hrc.refs hrc.len hLs) (by show(3:Int)≤3;decide)).le (by show 22+201 * i+201≤22+201 * (i+1);omega),k3.snoc ⟨hnm.1,hnm.2,by show((kk:Nat):Int)=2∨((kk:Nat):Int)=3;omega⟩⟩,ent_of [] [(2,9),(4,11)] [] rfl (sk) (sk) rfl,by show 4 - (i+1)<4 - i;omega⟩
 ·refine⟨_,⟨by omega,(Pt.mk kind card frm modes true ps x y z).cells,hcell,rfl⟩,?_⟩
  refine⟨by decide,?_⟩
  refine⟨((card.toNat % 2:Nat):Int),by show _=IntKind.i64.wrap ((card.toNat:Int).tmod 2);rw [show(card.toNat:Int).tmod 2=((card.toNat % 2:Nat):Int) from rfl];exact wrap_i64 (by omega) (by omega),?_⟩
  refine⟨2+((card.toNat % 2:Nat):Int),wrap_i64 (by omega) (by omega),?_⟩
  refine lendT (pargs:=[.agg ((Pt.mk kind card frm modes true ps x y z)).cells, .lsts 3 ((l).map Kn.cells), .bool true,i64 sz]) (prefs_h (Pt.mk kind card frm modes true ps x y z) (l) (k3).ok (by have:=(k3).len;omega) true sz hs).holds [4] rfl ⟨_,_,rfl,rfl,_,_,rfl,⟨_,rfl,by show 0+(i)≤((l).map Kn.cells).length;rw [List.length_map];have:=(k3).len;omega,takeAll (by rw [List.length_map];have:=(k3).len;omega)⟩,_,_,rfl,rfl,_,_,rfl,rfl,rfl⟩ fun e0 H0 hq=>?_
  obtain⟨rs,cs,rfl,rfl,hrc⟩:=hq
  refine⟨rfl,⟨flat_rfs _,flat_iO _,trivial⟩,_,⟨8,(6,rfsO rs)::(7,iO cs)::((5,ptO (Pt.mk kind card frm modes true ps x y z))::[(4,kwO l),(3,s1O (.sl 2 6 0 (2+i))),(2,dyO Y),(1,s1O (.p .nils)),(0,dpO ⟨gr,pt,ns,ch,gs,cz⟩)])⟩,rfl,rfl,?_⟩
  refine vdraw_ot otP15 (by kernel_rfl) ?_
  refine⟨((i+1:Nat):Int),by rw [Int.natCast_add];exact wrap_i64 (by omega) (by omega),?_⟩
  refine⟨by show(0:Int)≤(i:Nat)∧((i:Nat):Int)≤((i+1:Nat):Int)∧((i+1:Nat):Int)≤4;omega,?_⟩
  refine(pcases_c _ rs cs hrc 2 g ⟨.inr ⟨by omega,hg⟩⟩ hpc).use [6,7] rfl ⟨_,_,rfl,rfl,_,_,rfl,⟨_,rfl,by show 0+rs.length≤(rs.map Rf.cells).length;simp,takeAll (by simp)⟩,_,_,rfl,⟨_,rfl,by show 0+cs.length≤(cs.map i64).length;simp,takeAll (by simp)⟩,_,_,rfl,rfl,_,_,rfl,rfl,rfl⟩ fun r hr=>?_
  obtain⟨L,rfl,hLs⟩:=hr
  refine⟨⟨rfl,trivial⟩,?_⟩
  refine⟨⟨rfl,trivial⟩,?_⟩
  refine⟨by show 0+1≤1;omega,_,rfl, .inl ⟨[],[[i64 3,i64 ((2:Nat):Int), .str (nmI i), .str [112],rfl_ rs,(css L)]],rfl,⟨_,_,rfl,⟨_,_,rfl,rfl,_,_,rfl,rfl,_,_,rfl,rfl,_,_,rfl,rfl,_,_,rfl,⟨_,rfl,by show 0+rs.length≤(rs.map Rf.cells).length;simp,takeAll (by simp)⟩,_,_,rfl,(by first | exact rfl | exact .inl rfl),rfl⟩,rfl⟩,?_⟩⟩
  refine⟨by show 0+(2+i)≤Y.length;omega,Y,takeAll (by omega),by show(2+i+1) * 96≤140737488355328;omega,Y++[[i64 3,i64 ((2:Nat):Int), .str (nmI i), .str [112],rfl_ rs,(css L)]],rfl,?_⟩
  refine vdraw_ot otP16 (by kernel_rfl) ?_
  refine⟨((i+1:Nat):Int),by rw [Int.natCast_add];exact wrap_i64 (by omega) (by omega),?_⟩
  refine⟨by show(0:Int)≤(i:Nat)∧((i:Nat):Int)≤((i+1:Nat):Int)∧((i+1:Nat):Int)≤4;omega,?_⟩
  refine⟨by show 0+1≤1;omega,[((Kn.mk (nmI i) ((2:Nat):Int) true)).cells],rfl,?_⟩
  refine⟨by show 0+i≤(l.map Kn.cells).length;rw [List.length_map];omega,l.map Kn.cells,takeAll (by rw [List.length_map];omega),by show(i+1) * 32≤140737488355328;omega,(l++[(Kn.mk (nmI i) ((2:Nat):Int) true)]).map Kn.cells,by simp,?_⟩
  refine⟨((i+1:Nat):Int),by rw [Int.natCast_add];exact wrap_i64 (by omega) (by omega),?_⟩
  exact⟨(i+1,Y++[[i64 3,i64 ((2:Nat):Int), .str (nmI i), .str [112],rfl_ rs,css L]],l++[Kn.mk (nmI i) ((2:Nat):Int) true]),⟨by show i+1≤4;omega,(k2.snoc (d:=⟨3,((2:Nat):Int),nmI i,[112],rs,L⟩) (NilDL.refl _) (node_ok (n:=((2:Nat):Int)) (nat_of (by omega) (by omega)) hnm.1 hnm.2 (.inr rfl) hrc.refs hrc.len hLs) (by show(3:Int)≤3;decide)).le (by show 22+201 * i+201≤22+201 * (i+1);omega),k3.snoc ⟨hnm.1,hnm.2,by show((2:Nat):Int)=2∨((2:Nat):Int)=3;omega⟩⟩,ent_of [] [(2,9),(4,11)] [] rfl (sk) (sk) rfl,by show 4 - (i+1)<4 - i;omega⟩
theorem program_c3 (d:Dp) (hd:d.ok):Pure cx 9 [.agg d.cells] fun r=>∃ ds,r=.ret [srcV ds]∧DrP ds∧2≤ds.length∧ds.length≤20∧KOrd true ds:=
 (program_c' d hd).weak fun r hr=>by
  obtain⟨Y,n,k,rfl,h1,h2,h3,h4⟩:=hr
  obtain⟨ds,g1,g2,g3,g4⟩:=h1.ds
  refine⟨.ret [srcV ds],⟨_,rfl,_,_,rfl,?_,rfl⟩,ds,rfl,g2.fin (by omega) h3,by omega,by omega,g4⟩
  show NilD (.agg [.lsts 6 Y]) (.agg [.lsts 6 (ds.map De.cells)])
  simp only [NilD,NilDL]
  exact⟨_,rfl,_,_,rfl,⟨_,rfl,g1⟩,rfl⟩
theorem program_c2 (d:Dp) (hd:d.ok):Pure cx 9 [.agg d.cells] fun r=>∃ ds,r=.ret [srcV ds]∧DrP ds∧2≤ds.length:=
 (program_c3 d hd).mono fun _ ⟨ds,h1,h2,h3,_⟩=>⟨ds,h1,h2,h3⟩
end Go.Proofs.YtkegmchjobphdaaGreatDoor
