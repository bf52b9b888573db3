/- Part 1 of the proof: Ya -/
import Derived.WalkKit
import Derived.RangeFuncIn
namespace Go.Proofs.YtkegmchjobphdaaGreatDoor
abbrev qB:=@List.length_map
abbrev qC:=@Bool.and_eq_true
abbrev qD:=@List.length_append
abbrev qE:=@decide_eq_true
abbrev qF:=@decide_eq_false
abbrev qG:=@if_neg
abbrev qH:=@congrArg
abbrev qI:=@Nat.eq_of_beq_eq_true
abbrev qJ:=@decide_eq_true_eq
abbrev qK:=@List.getD_eq_getElem?_getD
abbrev qL:=@Nat.zero_le
abbrev qM:=@if_pos
abbrev qN:=@Nat.le_refl
abbrev qO:=@List.append_assoc
abbrev qP:=@List.mem_singleton
abbrev qQ:=@Bool.not_eq_true
abbrev qR:=@List.length_cons
abbrev qU:=@List.append_nil
abbrev qV:=@Bool.false_eq_true
abbrev qW:=@List.getElem?_eq_getElem
abbrev qX:=@List.map_append
abbrev qY:=@List.eq_nil_of_length_eq_zero
abbrev qZ:=@Int.natCast_add
abbrev qa:=@List.mem_append
abbrev qb:=@List.drop_eq_nil_of_le
abbrev qf:=@List.length_eq_zero_iff
abbrev qh:=@List.mem_cons_of_mem
abbrev qi:=@List.all_eq_true
abbrev qj:=@List.length_take
abbrev ql:=@Nat.zero_add
abbrev qm:=@List.append_eq_nil_iff
abbrev qo:=@Option.some.injEq
abbrev qp:=@Nat.le_of_ble_eq_true
abbrev qw:=@List.mem_cons
abbrev qy:=@List.length_nil
abbrev qz:=@List.mem_map
abbrev kC:=@List.mem_cons_self
abbrev kD:=@List.cons_append
abbrev kE:=@List.take_append_drop
abbrev kF:=@List.getElem?_map
abbrev kG:=@Nat.le_trans
abbrev kH:=@Bool.and_false
abbrev kI:=@List.map_cons
abbrev kJ:=@Array.getElem?_toList
abbrev kK:=@of_decide_eq_true
abbrev kL:=@Int.toNat_natCast
abbrev kM:=@List.foldlM_cons
abbrev kN:=@Array.getD_eq_getD_getElem?
abbrev kP:=@of_decide_eq_false
abbrev kQ:=@List.mem_of_mem_take
abbrev kR:=@Nat.mul_le_mul_right
abbrev kS:=@Nat.eq_zero_or_pos
abbrev kT:=@List.length_range
abbrev kU:=@List.ext_getElem?
abbrev kV:=@Int.natCast_nonneg
abbrev kW:=@Bool.or_eq_true
abbrev kX:=@List.take_of_length_le
abbrev kY:=@Nat.pow_le_pow_right
abbrev kZ:=@List.map_replicate
abbrev kg:=@List.nil_append
abbrev ko:=@List.foldlM_nil
abbrev kr:=@List.map_map
abbrev ku:=@Bool.not_eq_true'
abbrev kv:=@List.getElem?_eq_none
abbrev kz:=@List.length_replicate
abbrev xA:=@List.getElem?_append_right
abbrev xB:=@Nat.lt_or_ge
abbrev xC:=@List.filter_append
abbrev xE:=@Nat.add_sub_cancel
abbrev xG:=@Nat.min_eq_left
abbrev xH:=@List.length_filter_le
abbrev xI:=@List.flatten_cons
abbrev xJ:=@Bool.true_and
abbrev xK:=@Array.getElem?_eq_some_iff
abbrev xL:=@Option.map_eq_some_iff
abbrev xM:=@List.drop_eq_getElem_cons
abbrev xN:=@List.getElem?_append_left
abbrev xO:=@List.map_congr_left
abbrev xP:=@List.mem_range
abbrev xQ:=@Nat.lt_of_lt_of_le
abbrev xR:=@List.filter_cons_of_neg
abbrev xS:=@Int.natCast_mul
abbrev xU:=@List.getElem?_eq_some_iff
abbrev xV:=@Array.getElem?_eq_getElem
abbrev xW:=@List.getElem?_cons_succ
abbrev xX:=@Bool.and_true
abbrev xY:=@Bool.false_and
abbrev xZ:=@Bool.eq_false_iff
abbrev xe:=@List.flatMap_cons
abbrev xg:=@Option.map_some
abbrev xh:=@Array.toList_append
abbrev xk:=@List.replicate_succ
abbrev xm:=@List.getElem?_range
abbrev xq:=@Nat.mul_le_mul_left
abbrev xu:=@List.filter_eq_nil_iff
abbrev xx:=@Array.toList_map
abbrev xy:=@List.take_length
abbrev jA:=@List.getElem?_toArray
abbrev jB:=@List.all_cons
abbrev jC:=@Bool.false_or
abbrev jD:=@List.mem_of_getElem?
abbrev jE:=@Nat.pow_lt_pow_right
abbrev jF:=@Array.getElem?_setIfInBounds_ne
abbrev jG:=@List.foldl_cons
abbrev jH:=@Option.isSome_iff_exists
abbrev jI:=@List.length_set
abbrev jJ:=@List.map_take
abbrev jK:=@List.filter_cons_of_pos
abbrev jL:=@Option.bind_eq_some_iff
abbrev jM:=@Option.isSome_none
abbrev jN:=@List.pairwise_cons
abbrev jO:=@List.find?_cons
abbrev jP:=@List.map_nil
abbrev jQ:=@Prod.mk.injEq
abbrev jR:=@List.foldl_append
abbrev jS:=@Nat.mul_le_mul
abbrev jT:=@List.take_take
abbrev jU:=@Nat.shiftRight_eq_div_pow
abbrev jV:=@List.mem_flatMap
abbrev jW:=@List.take_succ_cons
abbrev jX:=@Nat.mul_one
abbrev jY:=@List.flatMap_append
abbrev jZ:=@Nat.sub_self
abbrev ja:=@Int.pow_zero
abbrev jb:=@Nat.pow_succ
abbrev jc:=@List.cons.injEq
abbrev je:=@List.mem_filter
abbrev jf:=@decide_eq_false_iff_not
abbrev jg:=@List.getElem?_set
abbrev jh:=@if_false
abbrev ji:=@List.drop_zero
abbrev jk:=@Nat.sub_zero
abbrev jm:=@Nat.succ_mul
abbrev jo:=@List.map_set
abbrev jq:=@List.all_nil
abbrev jr:=@Nat.lt_trans
abbrev jv:=@if_true
abbrev jw:=@List.range'_succ
abbrev jy:=@Or.elim
abbrev vC:=@List.mem_of_mem_drop
abbrev vE:=@Bool.or_eq_false_iff
abbrev vF:=@List.mem_append_left
abbrev vG:=@List.range_eq_range'
abbrev vH:=@Nat.mul_assoc
abbrev vJ:=@Int.mul_assoc
abbrev vK:=@Array.ext'
abbrev vL:=@Array.length_toList
abbrev vM:=@Option.some.inj
abbrev vN:=@List.getElem_of_mem
abbrev vP:=@Int.mul_one
abbrev vQ:=@Nat.zero_mul
abbrev vR:=@List.mem_replicate
abbrev vT:=@Nat.pow_zero
abbrev vU:=@Bool.true_or
abbrev vV:=@Int.pow_succ
abbrev vW:=@Ne.symm
abbrev vX:=@List.drop_drop
abbrev vY:=@List.filter_congr
abbrev vZ:=@List.take_append
abbrev ve:=@List.any_eq_true
abbrev vg:=@List.getElem_mem
abbrev vk:=@Nat.zero_testBit
abbrev vv:=@List.range_succ_eq_map
abbrev vw:=@Nat.testBit_lt_two_pow
abbrev vz:=@Nat.add_zero
abbrev zA:=@List.nodup_cons
abbrev zB:=@List.mem_append_right
abbrev zC:=@Bool.or_true
abbrev zD:=@List.range_succ
abbrev zF:=@List.getLast?_append
abbrev zG:=@BitVec.testBit_toNat
abbrev zH:=@List.take_zero
abbrev zI:=@Nat.testBit_two_pow
abbrev zJ:=@List.length_pos_iff
abbrev zK:=@Exists.elim
abbrev zL:=@true_and
abbrev zM:=@List.map_drop
abbrev zN:=@Nat.add_assoc
abbrev zO:=@UInt8.toNat_ofNat'
abbrev zP:=@Bool.or_false
abbrev zQ:=@List.cons.inj
abbrev zR:=@List.sum_cons
abbrev zS:=@Nat.blt_eq
abbrev zT:=@Nat.or_lt_two_pow
abbrev zU:=@Nat.mul_succ
abbrev zV:=@List.drop_append
abbrev zW:=@List.zipIdx_cons
abbrev zX:=@List.take_append_of_le_length
abbrev zY:=@Option.getD_some
abbrev zZ:=@Nat.lt_succ_self
abbrev za:=@List.filter_cons
abbrev zb:=@List.headD_cons
abbrev ze:=@Int.one_mul
abbrev zf:=@List.all_append
abbrev zg:=@Array.getElem?_append_left
abbrev zh:=@Int.fdiv_eq_ediv_of_nonneg
abbrev zi:=@List.extract_eq_take_drop
abbrev zl:=@List.mapM_cons
abbrev zm:=@Nat.testBit_or
abbrev zo:=@List.nodup_nil
abbrev zq:=@List.getElem_append_right
abbrev zt:=@List.pairwise_iff_getElem
abbrev zu:=@List.range_add
abbrev zw:=@beq_iff_eq
abbrev zx:=@Array.getElem?_replicate
abbrev zy:=@Nat.mod_lt
abbrev wB:=@List.getElem?_take_of_lt
abbrev wC:=@Bool.and_self
abbrev wD:=@Int.ofNat_inj
variable{p q:Prop}
theorem MB(h:p:=by
 refine⟨Nat × Nat,fun x=>[(1, .p (i64 p)),(2, .ptr 0 0 0),(143, .p (cds ar)),(144, .p (i64 ar.length)),(145, .p (i64 x.1))],fun x=>eY x.2,fun x=>x.1<=ar.length/\x.2<=1000/\(ar.drop x.1).foldlM (fun l c=>BQ d c l) x.2=R,fun x=>ar.length - x.1,?_,?_⟩
 ·exact⟨(0,m),⟨qL _,by simp only [];omega,FY (by first | (simp [Ay,Az, *];done) | simp [Ay,Az,Av, *])⟩,AA [] [] [] rfl ⟨rfl,⟨rfl,rfl⟩,rfl,qH (fun n:Nat=>i64 n) (qB ..).symm,rfl,trivial⟩ ⟨⟨_,rfl,rfl,rfl,_,rfl,_,_,rfl,qH i64 (by omega),rfl⟩,trivial⟩ rfl⟩
 rintro⟨i,l⟩ ⟨i1,i2,i3⟩
 simp only [] at i1 i2 i3
 refine qA (fun j1=>?_) (fun j1=>?_)
 rotate_left
 ·have j1:¬ (i:Int)<(ar.length:Nat):=j1
  rw [qb (by omega),ko] at i3
  exact⟨[],[],[], .returned (vB true),eY l,rfl,sk,sk,by rw [<- i3];exact⟨rfl,rfl⟩⟩
 have j1:(i:Int)<(ar.length:Nat):=j1
 have hi:i<ar.length:=by omega
 rw [EO Fy hi,kM] at i3
 have Jn:=El hb4 (Aa Fy hi)
 have AO:=Gu hi
 rcases hx:ar.getD i Fy with ⟨o',n',Iz,I1,I4,st',I5⟩
 rw [hx] at i3 Jn AO
 refine⟨_,⟨by omega,(Cd.mk o' n' Iz I1 I4 st' I5).cells,AO,rfl⟩,?_⟩
 refine⟨((p+1:Nat):Int),wrap_i64 (by omega) (by omega),?_⟩
 have DT:=ih (.mk o' n' Iz I1 I4 st' I5) l (p+1) Jn (by omega) (by omega)
 rcases hv:BQ d (.mk o' n' Iz I1 I4 st' I5) l with _ | l2
 ·rw [hv] at DT i3
  refine DT.holds.BB [] [] rfl (sk) (sk) fun e0 H0 hq=>?_
  obtain⟨rfl,rfl⟩:=hq
  refine⟨rfl,_,_,rfl,rfl,?_⟩
  exact⟨[],[],[], .returned (vB false),⟨1,[]⟩,rfl,sk,trivial,by rw [<- i3];exact⟨rfl,rfl⟩⟩
 ·have hle:=FT _ _ _ _ hv
  rw [hv] at DT i3
  refine DT.holds.BB [] [] rfl (sk) (sk) fun e0 H0 hq=>?_
  obtain⟨rfl,rfl⟩:=hq
  refine⟨rfl,_,⟨2,[(0,lfO l2),(1,cO ((Cd.mk o' n' Iz I1 I4 st' I5).cells.map .p))]⟩,rfl,rfl,?_⟩
  refine⟨_,wrap_i64 (by omega) (by omega),?_⟩
  exact⟨(i+1,l2),⟨by simp only [];omega,by simp only [];omega,i3⟩,AA [] [] [] rfl (sk) (sk) rfl,by show ar.length - (i+1)<ar.length - i;omega⟩):p:=h
theorem MC(h:p:=by exact⟨rfl,rfl⟩):p:=h
theorem ME(h:p:=by omega):p:=h
theorem MH(h:p:=by exact⟨_,_,rfl,⟨_,_,rfl,rfl,_,_,rfl,rfl,_,_,rfl,rfl,_,_,rfl,rfl,_,_,rfl, .inl rfl,_,_,rfl, .inl rfl,rfl⟩,_,_,rfl,⟨_,_,rfl,rfl,_,_,rfl,rfl,_,_,rfl,rfl,_,_,rfl,rfl,_,_,rfl,⟨_,rfl,(by show 0+1<=1;omega),rfl⟩,_,_,rfl,⟨_,rfl,(by show 0+2<=2;omega),⟨_,_,rfl,⟨_,_,rfl,rfl,_,_,rfl,rfl,_,_,rfl,rfl,_,_,rfl,rfl,_,_,rfl,rfl,_,_,rfl,rfl,_,_,rfl,rfl,_,_,rfl,rfl,_,_,rfl, .inl rfl,_,_,rfl,⟨_,rfl,(by show 0+1<=1;omega),rfl⟩,_,_,rfl,⟨_,rfl,(by show 0+2<=2;omega),rfl⟩,rfl⟩,_,_,rfl,⟨_,_,rfl,rfl,_,_,rfl,rfl,_,_,rfl,rfl,_,_,rfl,rfl,_,_,rfl,rfl,_,_,rfl,rfl,_,_,rfl,rfl,_,_,rfl,rfl,_,_,rfl, .inl rfl,_,_,rfl, .inl rfl,_,_,rfl,⟨_,rfl,(by show 0+2<=2;omega),rfl⟩,rfl⟩,rfl⟩⟩,rfl⟩,rfl⟩):p:=h
theorem MI(h:p:=by exact⟨_,_,rfl,⟨_,_,rfl,rfl,_,_,rfl,rfl,_,_,rfl,rfl,_,_,rfl,rfl,_,_,rfl, .inl rfl,_,_,rfl, .inl rfl,rfl⟩,_,_,rfl,⟨_,_,rfl,rfl,_,_,rfl,rfl,_,_,rfl,rfl,_,_,rfl,rfl,_,_,rfl,⟨_,rfl,(by show 0+1<=1;omega),rfl⟩,_,_,rfl,⟨_,rfl,(by show 0+2<=2;omega),⟨_,_,rfl,⟨_,_,rfl,rfl,_,_,rfl,rfl,_,_,rfl,rfl,_,_,rfl,rfl,_,_,rfl,rfl,_,_,rfl,rfl,_,_,rfl,rfl,_,_,rfl,rfl,_,_,rfl, .inl rfl,_,_,rfl, .inl rfl,_,_,rfl,⟨_,rfl,(by show 0+2<=2;omega),rfl⟩,rfl⟩,_,_,rfl,⟨_,_,rfl,rfl,_,_,rfl,rfl,_,_,rfl,rfl,_,_,rfl,rfl,_,_,rfl,rfl,_,_,rfl,rfl,_,_,rfl,rfl,_,_,rfl,rfl,_,_,rfl, .inl rfl,_,_,rfl, .inl rfl,_,_,rfl,⟨_,rfl,(by show 0+2<=2;omega),rfl⟩,rfl⟩,rfl⟩⟩,rfl⟩,rfl⟩):p:=h
theorem MJ(h:q)(e:q->p:=by intro z;exact And.intro (fun _=>z) (fun h=>absurd rfl h)):p:=e h
theorem MK(h:p:=by kernel_rfl):p:=h
theorem ML(h:p:=by decide):p:=h
theorem MN(h:q)(e:q->p:=by intro z;exact⟨by show(0:Int)<=((n.nodes.map EU.cells).length:Nat)/\(((n.nodes.map EU.cells).length:Nat):Int)<=((n.nodes.map EU.cells).length:Nat)/\(((n.nodes.map EU.cells).length:Nat):Int) * 8<=281474976710656/\(((n.nodes.map EU.cells).length:Nat):Int)<=281474976710656;rw [qB];omega,z⟩):p:=e h
theorem MO(h:p:=by show 0+1<=1;omega):p:=h
theorem MP(h:p:=by
 have o5:¬ op=5:=o5
 refine qA (fun p6=>?_) (fun p6=>?_)
 ·have p6:op=6:=p6
  have hg:FQ op n val st=val:=by rw [FQ,qG o5,qM p6]
  refine hK.eq rfl ?_
  refine And.intro (fun h=>absurd h O6) (fun _=>?_)
  refine qA (fun w1=>?_) (fun w1=>?_)
  ·have w1:kk<=val:=w1
   exact AL _ rfl rfl (Bf (by rw [hR,hg,qM w1]))
  ·have w1:¬ kk<=val:=w1
   exact AL _ rfl rfl (Bf (by rw [hR,hg,qG w1]))
 have p6:¬ op=6:=p6
 have hg:FQ op n val st=n:=by rw [FQ,qG o5,qG p6]
 refine hK.eq rfl ?_
 refine And.intro (fun h=>absurd h O6) (fun _=>?_)
 refine qA (fun w1=>?_) (fun w1=>?_)
 ·have w1:kk<=n:=w1
  exact AL _ rfl rfl (Bf (by rw [hR,hg,qM w1]))
 ·have w1:¬ kk<=n:=w1
  exact AL _ rfl rfl (Bf (by rw [hR,hg,qG w1]))):p:=h
theorem MS(h:q)(e:q->p:=by intro z;exact⟨rfl,_,⟨6,(2,Bz l)::(1,EX es)::(0,Ej ds (a:Nat) 2 l.length)::[(5,bL x),(4,QC (.mk op n rel val r st ar)),(3,Bl ⟨dk,dn,AQ,Ab,AJ,AZ⟩)]⟩,rfl,rfl,z⟩):p:=e h
theorem MU(h:p:=by exact⟨_,rfl,_,_,rfl,rfl,_,_,rfl,rfl,_,_,rfl,rfl,_,_,rfl,rfl,_,_,rfl,rfl,_,_,rfl,rfl,_,_,rfl,rfl,_,_,rfl,rfl,_,_,rfl, .inl rfl,_,_,rfl,⟨_,rfl,qN _,rfl⟩,rfl⟩):p:=h
theorem MV(h:p:=by
 exact⟨⟨_,rfl,rfl,rfl,rfl,rfl,rfl⟩,⟨_,rfl,rfl,rfl,rfl⟩,
 ⟨_,rfl,rfl,rfl,rfl⟩,⟨_,rfl,rfl,rfl,_,rfl,_,_,rfl,rfl,_,_,rfl,rfl,rfl⟩,⟨_,rfl,rfl,rfl,_,rfl,_,_,rfl,rfl,_,_,rfl,A9 _ _,rfl⟩,⟨_,rfl,rfl,rfl,_,rfl,_,_,rfl,A9 _ _,rfl⟩,⟨_,rfl,rfl,rfl,_,rfl,_,_,rfl,rfl,_,_,rfl,rfl,_,_,rfl,rfl,_,_,rfl,rfl,rfl⟩,trivial⟩):p:=h
theorem MW(h:p:=by exact AL _ rfl rfl (Af (by simp [Av, *]))):p:=h
theorem MX(h:p:=by exact⟨_,rfl⟩):p:=h
theorem MZ(h:q)(e:q->p:=by intro z;exact⟨by show 0+1<=1;decide,[Ac.cells (Ac.mk 2 ((l.map De.cells).length:Nat) AQ)],rfl,by show(1+1) * 32<=140737488355328;decide,[Ac.cells (Ac.mk 2 ((l.map De.cells).length:Nat) AQ),Ac.cells (Ac.mk 6 ((l.map De.cells).length:Nat) AQ)],rfl,z⟩):p:=e h
theorem Ma(h:p:=by exact⟨by omega,x.cells,AO,rfl⟩):p:=h
theorem Mc(h:q)(e:q->p:=by intro z;exact⟨by show 0+(cur.length+1)<=((cur++[Ac.mk 2 ((l.map De.cells).length:Nat) x.name]).map Ac.cells).length;simp,(cur++[Ac.mk 2 ((l.map De.cells).length:Nat) x.name]).map Ac.cells,AB (by simp),by show((cur.length+1)+1) * 32<=140737488355328;omega,((cur++[Ac.mk 2 ((l.map De.cells).length:Nat) x.name])++[Ac.mk kk ((l.map De.cells).length:Nat) x.name]).map Ac.cells,by rw [qX];rfl,z⟩):p:=e h
theorem Me(h:p:=by
 refine⟨by show 0+2<=2;decide,[Ac.cells (Ac.mk 2 ((l.map De.cells).length:Nat) AQ),Ac.cells (Ac.mk 4 ((l.map De.cells).length:Nat) Ab)],rfl,by show(2+1) * 32<=140737488355328;decide,[Ac.cells (Ac.mk 2 ((l.map De.cells).length:Nat) AQ),Ac.cells (Ac.mk 4 ((l.map De.cells).length:Nat) Ab),Ac.cells (Ac.mk 6 ((l.map De.cells).length:Nat) AQ)],rfl,?_⟩
 exact⟨Nat × List Ac,(fun x=>[(0, .p (Dw l)),(2, .p (i64 g)),(4, .ptr 0 0 0),(7, .sl 1 3 0 x.2.length),(8, .p (i64 (l.map De.cells).length)),(13, .p (i64 x.1))]),(fun x=>⟨2,[(1,Bz x.2),(0,Bl ⟨3,dn,AQ,Ab,AJ,AZ⟩)]⟩),(fun x=>x.1<=AJ.length/\x.2++Am l ⟨3,dn,AQ,Ab,AJ,AZ⟩ (AJ.take x.1) (AJ.drop x.1)=Ef l ⟨3,dn,AQ,Ab,AJ,AZ⟩++Am l ⟨3,dn,AQ,Ab,AJ,AZ⟩ [] AJ),(fun x=>AJ.length - x.1),⟨(0,[Ac.mk 2 ((l.map De.cells).length:Nat) AQ,Ac.mk 4 ((l.map De.cells).length:Nat) Ab,Ac.mk 6 ((l.map De.cells).length:Nat) AQ]),⟨qL _,by show [Ac.mk 2 ((l.map De.cells).length:Nat) AQ,Ac.mk 4 ((l.map De.cells).length:Nat) Ab,Ac.mk 6 ((l.map De.cells).length:Nat) AQ]++_=_;rw [E8,K9,Lv,hc];rfl⟩,AA [] [(1,8)] [] rfl (sk) (sk) rfl⟩,key.get⟩):p:=h
theorem Mf(h:p:=by
 refine⟨by show 0+2<=2;decide,[Ac.cells (Ac.mk 2 ((l.map De.cells).length:Nat) AQ),Ac.cells (Ac.mk 3 ((l.map De.cells).length:Nat) Ab)],rfl,by show(2+1) * 32<=140737488355328;decide,[Ac.cells (Ac.mk 2 ((l.map De.cells).length:Nat) AQ),Ac.cells (Ac.mk 3 ((l.map De.cells).length:Nat) Ab),Ac.cells (Ac.mk 6 ((l.map De.cells).length:Nat) AQ)],rfl,?_⟩
 exact⟨Nat × List Ac,(fun x=>[(0, .p (Dw l)),(2, .p (i64 g)),(4, .ptr 0 0 0),(7, .sl 1 3 0 x.2.length),(8, .p (i64 (l.map De.cells).length)),(13, .p (i64 x.1))]),(fun x=>⟨2,[(1,Bz x.2),(0,Bl ⟨3,dn,AQ,Ab,AJ,AZ⟩)]⟩),(fun x=>x.1<=AJ.length/\x.2++Am l ⟨3,dn,AQ,Ab,AJ,AZ⟩ (AJ.take x.1) (AJ.drop x.1)=Ef l ⟨3,dn,AQ,Ab,AJ,AZ⟩++Am l ⟨3,dn,AQ,Ab,AJ,AZ⟩ [] AJ),(fun x=>AJ.length - x.1),⟨(0,[Ac.mk 2 ((l.map De.cells).length:Nat) AQ,Ac.mk 3 ((l.map De.cells).length:Nat) Ab,Ac.mk 6 ((l.map De.cells).length:Nat) AQ]),⟨qL _,by show [Ac.mk 2 ((l.map De.cells).length:Nat) AQ,Ac.mk 3 ((l.map De.cells).length:Nat) Ab,Ac.mk 6 ((l.map De.cells).length:Nat) AQ]++_=_;rw [E8,K9,Lv,hc];rfl⟩,AA [] [(1,8)] [] rfl (sk) (sk) rfl⟩,key.get⟩):p:=h
theorem Mh(h:p:=by
 have h1:¬ r.mode=0:=h1
 refine qA (fun h4=>?_) (fun h4=>?_)
 ·have h4:r.mode=3:=h4
  refine qA (fun h2=>?_) (fun h2=>?_)
  ·have h2:r.Ae=[]:=h2
   refine qA (fun h3=>?_) (fun h3=>?_)
   ·have h3:r.n=0:=h3
    exact AL _ rfl rfl (Af (by simp [CU,n1,h4,h2,h3]))
   ·have h3:¬ r.n=0:=h3
    exact AL _ rfl rfl (Af (by simp [CU,n1,h4,h2,h3]))
  ·have h2:¬ r.Ae=[]:=h2
   exact AL _ rfl rfl (Af (by simp [CU,n1,h4,h2]))
 have h4:¬ r.mode=3:=h4
 refine qA (fun h5=>?_) (fun h5=>?_)
 ·have h5:r.mode=1:=h5
  by_cases n2:Bb r.Ae=true
  ·rw [n2] at hP
   refine hP.eq rfl ?_
   refine hA.eq rfl ?_
   exact AL _ rfl rfl (Af (by simp [CU,n1,n2,h5]))
  ·rw [qQ] at n2
   rw [n2] at hP
   refine hP.eq rfl ?_
   exact AL _ rfl rfl (Af (by simp [CU,n1,n2,h5]))
 have h5:¬ r.mode=1:=h5
 refine qA (fun h6=>?_) (fun h6=>?_)
 ·have h6:r.mode=2:=h6
  refine qA (fun h2=>?_) (fun h2=>?_)
  ·have h2:r.Ae=[]:=h2
   refine hA.eq rfl ?_
   exact AL _ rfl rfl (Af (by simp [CU,n1,h6,h2]))
  ·have h2:¬ r.Ae=[]:=h2
   exact AL _ rfl rfl (Af (by simp [CU,n1,h6,h2]))
 have h6:¬ r.mode=2:=h6
 exact AL _ rfl rfl (Af (by simp [CU,h1,h4,h5,h6]))):p:=h
theorem Mi(h:p:=by exact AL _ rfl rfl (Af (by simp [BP, *]))):p:=h
theorem Mj(h:p:=by
 have hg:FQ op n val st=st.getD m 0:=by rw [FQ,qM o5,bM]
 refine hK.eq rfl ?_
 refine And.intro (fun h=>absurd h O6) (fun _=>?_)
 refine qA (fun w1=>?_) (fun w1=>?_)
 ·have w1:kk<=st.getD m 0:=w1
  exact AL _ rfl rfl (Bf (by rw [hR,hg,qM w1]))
 ·have w1:¬ kk<=st.getD m 0:=w1
  exact AL _ rfl rfl (Bf (by rw [hR,hg,qG w1]))):p:=h
theorem Mk(h:p:=by
 refine⟨by show 0+1<=1;decide,[Ac.cells (Ac.mk 4 ((l.map De.cells).length:Nat) Ab)],rfl,by show(1+1) * 32<=140737488355328;decide,[Ac.cells (Ac.mk 4 ((l.map De.cells).length:Nat) Ab),Ac.cells (Ac.mk 6 ((l.map De.cells).length:Nat) AQ)],rfl,?_⟩
 exact⟨Nat × List Ac,(fun x=>[(0, .p (Dw l)),(2, .p (i64 g)),(4, .ptr 0 0 0),(7, .sl 1 3 0 x.2.length),(8, .p (i64 (l.map De.cells).length)),(13, .p (i64 x.1))]),(fun x=>⟨2,[(1,Bz x.2),(0,Bl ⟨3,dn,AQ,Ab,AJ,AZ⟩)]⟩),(fun x=>x.1<=AJ.length/\x.2++Am l ⟨3,dn,AQ,Ab,AJ,AZ⟩ (AJ.take x.1) (AJ.drop x.1)=Ef l ⟨3,dn,AQ,Ab,AJ,AZ⟩++Am l ⟨3,dn,AQ,Ab,AJ,AZ⟩ [] AJ),(fun x=>AJ.length - x.1),⟨(0,[Ac.mk 4 ((l.map De.cells).length:Nat) Ab,Ac.mk 6 ((l.map De.cells).length:Nat) AQ]),⟨qL _,by show [Ac.mk 4 ((l.map De.cells).length:Nat) Ab,Ac.mk 6 ((l.map De.cells).length:Nat) AQ]++_=_;rw [E8,K9,Lv,hc];rfl⟩,AA [] [(1,6)] [] rfl (sk) (sk) rfl⟩,key.get⟩):p:=h
theorem Ml(h:p:=by
 refine⟨by show 0+1<=1;decide,[Ac.cells (Ac.mk 3 ((l.map De.cells).length:Nat) Ab)],rfl,by show(1+1) * 32<=140737488355328;decide,[Ac.cells (Ac.mk 3 ((l.map De.cells).length:Nat) Ab),Ac.cells (Ac.mk 6 ((l.map De.cells).length:Nat) AQ)],rfl,?_⟩
 exact⟨Nat × List Ac,(fun x=>[(0, .p (Dw l)),(2, .p (i64 g)),(4, .ptr 0 0 0),(7, .sl 1 3 0 x.2.length),(8, .p (i64 (l.map De.cells).length)),(13, .p (i64 x.1))]),(fun x=>⟨2,[(1,Bz x.2),(0,Bl ⟨3,dn,AQ,Ab,AJ,AZ⟩)]⟩),(fun x=>x.1<=AJ.length/\x.2++Am l ⟨3,dn,AQ,Ab,AJ,AZ⟩ (AJ.take x.1) (AJ.drop x.1)=Ef l ⟨3,dn,AQ,Ab,AJ,AZ⟩++Am l ⟨3,dn,AQ,Ab,AJ,AZ⟩ [] AJ),(fun x=>AJ.length - x.1),⟨(0,[Ac.mk 3 ((l.map De.cells).length:Nat) Ab,Ac.mk 6 ((l.map De.cells).length:Nat) AQ]),⟨qL _,by show [Ac.mk 3 ((l.map De.cells).length:Nat) Ab,Ac.mk 6 ((l.map De.cells).length:Nat) AQ]++_=_;rw [E8,K9,Lv,hc];rfl⟩,AA [] [(1,6)] [] rfl (sk) (sk) rfl⟩,key.get⟩):p:=h
theorem Mm(h:p:=by exact AL _ rfl rfl (Af (by rw [Hr];simp [BP, *]))):p:=h
theorem Mq(h:q)(e:q->p:=by intro z;exact⟨Nat,fun k=>[(0, .ptr 0 0 0),(2, .p (i64 idx)),(4, .ptr 4 0 0),(7, .ptr 5 0 0),(13, .p (.Ai 10 [])),(14, .p (i64 0)),(15, .p (i64 k))],fun _=>⟨6,(5,fbO (.p .Ad))::(4,QC (.mk op n rel val ⟨rn,rm,rp,ri⟩ st []))::Xi ds ms ns eb es en⟩,fun k=>k=0,fun _=>0,⟨0,rfl,AA [] [] [] rfl (sk) (sk) rfl⟩,z⟩):p:=e h
theorem Mr(h:p:=by
 refine⟨by show 0+out.length<=(out.map Cs.cells).length;simp,out.map Cs.cells,AB (by simp),by show(out.length+1) * 152<=140737488355328;have:=k2.len;omega,out.map Cs.cells++[WY++[ints l]],rfl,?_⟩
 refine AL (.Ai 11 (out.map Cs.cells++[WY++[ints l]])) rfl ⟨_,rfl,by show 0+(out.length+1)<=(out.map Cs.cells++[WY++[ints l]]).length;simp,AB (by simp)⟩ ⟨_,out++[⟨Fy,l⟩],rfl,KM out l,Qv (by have:=k2.len;omega) k2.cs ⟨rfl,(hl.nu hk)⟩⟩):p:=h
theorem Ms(h:p:=by
 refine(Qo ds a es (l) 1 (by first | omega | (simp only [qD,qR,qy];omega))).holds.BB [] [] rfl (sk) (sk) fun e0 H0 hq=>?_
 obtain⟨rfl,rfl⟩:=hq
 refine⟨rfl,_,⟨5,(4,Bz ((l)++[Ac.mk 1 (a:Nat) []]))::(1,EX es)::(0,Ej ds (a:Nat) 4 ((l)++[Ac.mk 1 (a:Nat) []]).length)::[(3,Bl ⟨dk,dn,AQ,Ab,AJ,AZ⟩)]⟩,rfl,rfl,?_⟩
 exact⟨[],[(3,4)],[], .returned Bv,VI ds a es (l++[Ac.mk 1 (a:Nat) []]),rfl,sk,sk,rfl,by rw [hR]⟩):p:=h
theorem Mt(h:p:=by exact AL _ rfl rfl (Bf (by rw [Bt (by simp [Ay,Az,Bo, *])];rfl))):p:=h
theorem Mv(h:p:=by exact⟨(k+1,Ed eb AQ (i64 (X.length:Nat)),es',X1,Ky),⟨by show k+1<=ds.length;omega,aB,by show Ii ds X1 (AY ds (ds.take (k+1)));rw [Ch];exact j2,by show Ky=_;rw [Ch];exact j3⟩,AA [] [] [] rfl (sk) (sk) rfl,by show ds.length - (k+1)<ds.length - k;omega⟩):p:=h
theorem Mx(h:p:=by exact AL _ rfl rfl (Bf hR.symm)):p:=h
theorem M3(h:q)(e:q->p:=by intro z;exact⟨by show 1 * 32<=140737488355328;decide,z⟩):p:=e h
theorem M4(h:p:=by
 have hm:=Kt (ds:=ds) (k+1)
 exact⟨[],[],[], .returned (.p (.bool true)),GQ ds b (EA ds) l,rfl,sk,sk,by rw [show IC ds=true by unfold IC;rw [qE (show 8<Ao [] ds by omega)];simp],rfl⟩):p:=h
theorem M6(h:p:=by
 refine And.intro (fun h3=>?_) (fun h3=>?_)
 ·refine And.intro (fun h4=>?_) (fun h4=>?_)
  ·exact AL _ rfl rfl (Af (by simp [isLet];omega))
  ·exact AL _ rfl rfl (Af (by simp [isLet];omega))
 ·exact AL _ rfl rfl (Af (by simp [isLet];omega))):p:=h
theorem M7(h:p:=by
 have c2:¬ 4<dn:=c2
 have hc:BK l ⟨3,dn,AQ,Ab,AJ,AZ⟩=[]:=by rw [BK,qG (show ¬ (dn<2∨4<dn) by omega)]
 exact⟨Nat × List Ac,(fun x=>[(0, .p (Dw l)),(2, .p (i64 g)),(4, .ptr 0 0 0),(7, .sl 1 3 0 x.2.length),(8, .p (i64 (l.map De.cells).length)),(13, .p (i64 x.1))]),(fun x=>⟨2,[(1,Bz x.2),(0,Bl ⟨3,dn,AQ,Ab,AJ,AZ⟩)]⟩),(fun x=>x.1<=AJ.length/\x.2++Am l ⟨3,dn,AQ,Ab,AJ,AZ⟩ (AJ.take x.1) (AJ.drop x.1)=Ef l ⟨3,dn,AQ,Ab,AJ,AZ⟩++Am l ⟨3,dn,AQ,Ab,AJ,AZ⟩ [] AJ),(fun x=>AJ.length - x.1),⟨(0,[Ac.mk 2 ((l.map De.cells).length:Nat) AQ]),⟨qL _,by show [Ac.mk 2 ((l.map De.cells).length:Nat) AQ]++_=_;rw [E8,K9,Lv,hc];rfl⟩,AA [] [(1,3)] [] rfl (sk) (sk) rfl⟩,key.get⟩):p:=h
theorem M8(h:p:=by exact⟨Nat × List Ac,(fun x=>[(0, .p (Dw l)),(2, .p (i64 g)),(4, .ptr 0 0 0),(7, .sl 1 3 0 x.2.length),(8, .p (i64 (l.map De.cells).length)),(13, .p (i64 x.1))]),(fun x=>⟨2,[(1,Bz x.2),(0,Bl ⟨3,dn,AQ,Ab,AJ,AZ⟩)]⟩),(fun x=>x.1<=AJ.length/\x.2++Am l ⟨3,dn,AQ,Ab,AJ,AZ⟩ (AJ.take x.1) (AJ.drop x.1)=Ef l ⟨3,dn,AQ,Ab,AJ,AZ⟩++Am l ⟨3,dn,AQ,Ab,AJ,AZ⟩ [] AJ),(fun x=>AJ.length - x.1),⟨(0,[Ac.mk 2 ((l.map De.cells).length:Nat) AQ,Ac.mk 6 ((l.map De.cells).length:Nat) AQ]),⟨qL _,by show [Ac.mk 2 ((l.map De.cells).length:Nat) AQ,Ac.mk 6 ((l.map De.cells).length:Nat) AQ]++_=_;rw [E8,K9,Lv,hc];rfl⟩,AA [] [(1,6)] [] rfl (sk) (sk) rfl⟩,key.get⟩):p:=h
theorem M9(h:p:=by exact⟨Nat × List Ac,(fun x=>[(0, .p (Dw l)),(2, .p (i64 g)),(4, .ptr 0 0 0),(7, .sl 1 3 0 x.2.length),(8, .p (i64 (l.map De.cells).length)),(13, .p (i64 x.1))]),(fun x=>⟨2,[(1,Bz x.2),(0,Bl ⟨3,dn,AQ,Ab,AJ,AZ⟩)]⟩),(fun x=>x.1<=AJ.length/\x.2++Am l ⟨3,dn,AQ,Ab,AJ,AZ⟩ (AJ.take x.1) (AJ.drop x.1)=Ef l ⟨3,dn,AQ,Ab,AJ,AZ⟩++Am l ⟨3,dn,AQ,Ab,AJ,AZ⟩ [] AJ),(fun x=>AJ.length - x.1),⟨(0,[Ac.mk 2 ((l.map De.cells).length:Nat) AQ,Ac.mk 6 ((l.map De.cells).length:Nat) AQ]),⟨qL _,by show [Ac.mk 2 ((l.map De.cells).length:Nat) AQ,Ac.mk 6 ((l.map De.cells).length:Nat) AQ]++_=_;rw [E8,K9,Lv,hc];rfl⟩,AA [] [(1,5)] [] rfl (sk) (sk) rfl⟩,key.get⟩):p:=h
theorem MAA(h:p:=by exact⟨Nat × List Ac,(fun x=>[(0, .p (Dw l)),(2, .p (i64 g)),(4, .ptr 0 0 0),(7, .sl 1 3 0 x.2.length),(8, .p (i64 (l.map De.cells).length)),(13, .p (i64 x.1))]),(fun x=>⟨2,[(1,Bz x.2),(0,Bl ⟨4,dn,AQ,Ab,AJ,AZ⟩)]⟩),(fun x=>x.1<=AJ.length/\x.2++Am l ⟨4,dn,AQ,Ab,AJ,AZ⟩ (AJ.take x.1) (AJ.drop x.1)=Ef l ⟨4,dn,AQ,Ab,AJ,AZ⟩++Am l ⟨4,dn,AQ,Ab,AJ,AZ⟩ [] AJ),(fun x=>AJ.length - x.1),⟨(0,[Ac.mk 2 ((l.map De.cells).length:Nat) AQ,Ac.mk 6 ((l.map De.cells).length:Nat) AQ]),⟨qL _,by show [Ac.mk 2 ((l.map De.cells).length:Nat) AQ,Ac.mk 6 ((l.map De.cells).length:Nat) AQ]++_=_;rw [E8,K9,hc];rfl⟩,AA [] [(1,5)] [] rfl (sk) (sk) rfl⟩,key.get⟩):p:=h
theorem MAB(h:p:=by exact⟨Nat × List Ac,(fun x=>[(0, .p (Dw l)),(2, .p (i64 g)),(4, .ptr 0 0 0),(7, .sl 1 3 0 x.2.length),(8, .p (i64 (l.map De.cells).length)),(13, .p (i64 x.1))]),(fun x=>⟨2,[(1,Bz x.2),(0,Bl ⟨2,dn,AQ,Ab,AJ,AZ⟩)]⟩),(fun x=>x.1<=AJ.length/\x.2++Am l ⟨2,dn,AQ,Ab,AJ,AZ⟩ (AJ.take x.1) (AJ.drop x.1)=Ef l ⟨2,dn,AQ,Ab,AJ,AZ⟩++Am l ⟨2,dn,AQ,Ab,AJ,AZ⟩ [] AJ),(fun x=>AJ.length - x.1),⟨(0,[Ac.mk 2 ((l.map De.cells).length:Nat) AQ,Ac.mk 5 ((l.map De.cells).length:Nat) AQ]),⟨qL _,by show [Ac.mk 2 ((l.map De.cells).length:Nat) AQ,Ac.mk 5 ((l.map De.cells).length:Nat) AQ]++_=_;rw [E8,K9,hc];rfl⟩,AA [] [(1,5)] [] rfl (sk) (sk) rfl⟩,key.get⟩):p:=h
theorem MAC(h:q)(e:q->p:=by intro z;exact And.intro (fun h=>absurd (show(m.toNat:Int).tmod 8=1 from h) (by rw [e8];omega)) (fun _=>z)):p:=e h
theorem MAD(h:q)(e:q->p:=by intro z;exact And.intro (by show 0+2<=2;omega) (Exists.intro _ (And.intro rfl z))):p:=e h
theorem MAE(h:q)(e:q->p:=by intro z;exact⟨by show 0+(cur.length)<=((cur).map Ac.cells).length;simp,(cur).map Ac.cells,AB (by simp),by show((cur.length)+1) * 32<=140737488355328;omega,((cur)++[Ac.mk kk ((l.map De.cells).length:Nat) x.name]).map Ac.cells,by rw [qX];rfl,z⟩):p:=e h
theorem MAF(h:p:=by exact⟨[],[],[], .returned (.p (i64 4)),GQ ds a es l,rfl,sk,sk,Gg hR.symm,rfl⟩):p:=h
theorem MAG(h:q)(e:q->p:=by intro z;exact⟨by show 0+(cur.length)<=((cur).map Ac.cells).length;simp,(cur).map Ac.cells,AB (by simp),by show((cur.length)+1) * 32<=140737488355328;omega,((cur)++[Ac.mk 2 ((l.map De.cells).length:Nat) x.name]).map Ac.cells,by rw [qX];rfl,z⟩):p:=e h
theorem MAH(h:p:=by exact⟨by omega,(⟨.mk xo xn xr xv xf xs xa,xw⟩:Cs).cells,AO,rfl⟩):p:=h
theorem MAI(h:p:=by rw [qB];omega):p:=h
theorem MAJ(h:q)(e:q->p:=by intro z;exact⟨by show 0+(Ex.length)<=((Ex).map Ac.cells).length;simp,(Ex).map Ac.cells,AB (by simp),by show((Ex.length)+1) * 32<=140737488355328;omega,((Ex)++[Ac.mk 9 ((l.map De.cells).length:Nat) []]).map Ac.cells,by rw [qX];rfl,z⟩):p:=e h
theorem MAK(h:q)(e:q->p:=by intro z;exact⟨by show 0+cs.length<=(cs.map i64).length;simp,cs.map i64,AB (by simp),by show(cs.length+1) * 8<=140737488355328;have:=k2.eq;omega,(cs++[card]).map i64,by simp,z⟩):p:=e h
theorem MAL(h:p:=by
 have c2:¬ 4<dn:=c2
 have hc:BK l ⟨3,dn,AQ,Ab,AJ,AZ⟩=[]:=by rw [BK,qG (show ¬ (dn<2∨4<dn) by omega)]
 exact⟨Nat × List Ac,(fun x=>[(0, .p (Dw l)),(2, .p (i64 g)),(4, .ptr 0 0 0),(7, .sl 1 3 0 x.2.length),(8, .p (i64 (l.map De.cells).length)),(13, .p (i64 x.1))]),(fun x=>⟨2,[(1,Bz x.2),(0,Bl ⟨3,dn,AQ,Ab,AJ,AZ⟩)]⟩),(fun x=>x.1<=AJ.length/\x.2++Am l ⟨3,dn,AQ,Ab,AJ,AZ⟩ (AJ.take x.1) (AJ.drop x.1)=Ef l ⟨3,dn,AQ,Ab,AJ,AZ⟩++Am l ⟨3,dn,AQ,Ab,AJ,AZ⟩ [] AJ),(fun x=>AJ.length - x.1),⟨(0,[]),⟨qL _,by show []++_=_;rw [E8,K9,Lv,hc];rfl⟩,AA [] [] [(1,3)] rfl (sk) (sk) rfl⟩,key.get⟩):p:=h
theorem MAM(h:p:=by exact⟨Nat × List Ac,(fun x=>[(0, .p (Dw l)),(2, .p (i64 g)),(4, .ptr 0 0 0),(7, .sl 1 3 0 x.2.length),(8, .p (i64 (l.map De.cells).length)),(13, .p (i64 x.1))]),(fun x=>⟨2,[(1,Bz x.2),(0,Bl ⟨3,dn,AQ,Ab,AJ,AZ⟩)]⟩),(fun x=>x.1<=AJ.length/\x.2++Am l ⟨3,dn,AQ,Ab,AJ,AZ⟩ (AJ.take x.1) (AJ.drop x.1)=Ef l ⟨3,dn,AQ,Ab,AJ,AZ⟩++Am l ⟨3,dn,AQ,Ab,AJ,AZ⟩ [] AJ),(fun x=>AJ.length - x.1),⟨(0,[Ac.mk 6 ((l.map De.cells).length:Nat) AQ]),⟨qL _,by show [Ac.mk 6 ((l.map De.cells).length:Nat) AQ]++_=_;rw [E8,K9,Lv,hc];rfl⟩,AA [] [(1,4)] [] rfl (sk) (sk) rfl⟩,key.get⟩):p:=h
theorem MAN(h:p:=by exact⟨Nat × List Ac,(fun x=>[(0, .p (Dw l)),(2, .p (i64 g)),(4, .ptr 0 0 0),(7, .sl 1 3 0 x.2.length),(8, .p (i64 (l.map De.cells).length)),(13, .p (i64 x.1))]),(fun x=>⟨2,[(1,Bz x.2),(0,Bl ⟨3,dn,AQ,Ab,AJ,AZ⟩)]⟩),(fun x=>x.1<=AJ.length/\x.2++Am l ⟨3,dn,AQ,Ab,AJ,AZ⟩ (AJ.take x.1) (AJ.drop x.1)=Ef l ⟨3,dn,AQ,Ab,AJ,AZ⟩++Am l ⟨3,dn,AQ,Ab,AJ,AZ⟩ [] AJ),(fun x=>AJ.length - x.1),⟨(0,[Ac.mk 6 ((l.map De.cells).length:Nat) AQ]),⟨qL _,by show [Ac.mk 6 ((l.map De.cells).length:Nat) AQ]++_=_;rw [E8,K9,Lv,hc];rfl⟩,AA [] [(1,3)] [] rfl (sk) (sk) rfl⟩,key.get⟩):p:=h
theorem MAO(h:p:=by exact⟨Nat × List Ac,(fun x=>[(0, .p (Dw l)),(2, .p (i64 g)),(4, .ptr 0 0 0),(7, .sl 1 3 0 x.2.length),(8, .p (i64 (l.map De.cells).length)),(13, .p (i64 x.1))]),(fun x=>⟨2,[(1,Bz x.2),(0,Bl ⟨4,dn,AQ,Ab,AJ,AZ⟩)]⟩),(fun x=>x.1<=AJ.length/\x.2++Am l ⟨4,dn,AQ,Ab,AJ,AZ⟩ (AJ.take x.1) (AJ.drop x.1)=Ef l ⟨4,dn,AQ,Ab,AJ,AZ⟩++Am l ⟨4,dn,AQ,Ab,AJ,AZ⟩ [] AJ),(fun x=>AJ.length - x.1),⟨(0,[Ac.mk 6 ((l.map De.cells).length:Nat) AQ]),⟨qL _,by show [Ac.mk 6 ((l.map De.cells).length:Nat) AQ]++_=_;rw [E8,K9,hc];rfl⟩,AA [] [(1,3)] [] rfl (sk) (sk) rfl⟩,key.get⟩):p:=h
theorem MAQ(h:p:=by exact⟨Nat × List Ac,(fun x=>[(0, .p (Dw l)),(2, .p (i64 g)),(4, .ptr 0 0 0),(7, .sl 1 3 0 x.2.length),(8, .p (i64 (l.map De.cells).length)),(13, .p (i64 x.1))]),(fun x=>⟨2,[(1,Bz x.2),(0,Bl ⟨2,dn,AQ,Ab,AJ,AZ⟩)]⟩),(fun x=>x.1<=AJ.length/\x.2++Am l ⟨2,dn,AQ,Ab,AJ,AZ⟩ (AJ.take x.1) (AJ.drop x.1)=Ef l ⟨2,dn,AQ,Ab,AJ,AZ⟩++Am l ⟨2,dn,AQ,Ab,AJ,AZ⟩ [] AJ),(fun x=>AJ.length - x.1),⟨(0,[Ac.mk 5 ((l.map De.cells).length:Nat) AQ]),⟨qL _,by show [Ac.mk 5 ((l.map De.cells).length:Nat) AQ]++_=_;rw [E8,K9,hc];rfl⟩,AA [] [(1,3)] [] rfl (sk) (sk) rfl⟩,key.get⟩):p:=h
theorem MAR(h:p:=by exact⟨by omega,(De.mk dk dn AQ Ab AJ AZ).cells,AO,rfl⟩):p:=h
theorem MAS(h:p:=by exact⟨(k+1,false),⟨by show k+1<=AJ.length;omega,(qF (fun h=>(Ch.1 h).elim Bt fun e=>e1 e.symm)).symm⟩,AA [] [] [] rfl (sk) (sk) rfl,by show AJ.length - (k+1)<AJ.length - k;omega⟩):p:=h
theorem MAT(h:p:=by exact⟨(k+1,Ex),⟨by show k+1<=ds.length;omega,k4⟩,AA [] [(2,5),(3,3)] [] rfl (sk) ⟨⟨_,rfl,rfl,rfl,sk⟩,⟨_,rfl,rfl,rfl,rfl⟩,⟨_,rfl,rfl,rfl,qH Cn.ms (by rw [hi2,Tq fI])⟩,⟨_,rfl,rfl,rfl,sk⟩,trivial⟩ rfl,by show ds.length - (k+1)<ds.length - k;omega⟩):p:=h
theorem MAU(h:p:=by exact⟨(0,X,nm),⟨qL _,by show Ii ds X (AY ds (ds.take k)++[]);rw [qU];exact hX,by show nm=(AY ds (ds.take k)++[]).map Mb.name;rw [qU];exact F4⟩,AA [] [] [] rfl (sk) (sk) rfl⟩):p:=h
theorem MAV(h:q)(e:q->p:=by intro z;exact⟨rfl,_,⟨5,(4,Bz (L1))::(1,EX es)::(0,Ej ds (a:Nat) 4 (L1).length)::[(3,Bl ⟨dk,dn,AQ,Ab,AJ,AZ⟩)]⟩,rfl,rfl,z⟩):p:=e h
theorem MAW(h:p:=by exact⟨_,_,rfl,rfl,_,_,rfl,⟨_,rfl,by show 0+(i)<=((l).map Kn.cells).length;rw [qB];have:=(k3).len;omega,AB (by rw [qB];have:=(k3).len;omega)⟩,_,_,rfl,rfl,_,_,rfl,rfl,rfl⟩):p:=h
theorem MAZ(h:p:=by exact⟨(k+1,Ex),⟨by show k+1<=ds.length;omega,k4⟩,AA [] [(2,5),(3,3)] [] rfl (sk) ⟨⟨_,rfl,rfl,rfl,sk⟩,⟨_,rfl,rfl,rfl,rfl⟩,⟨_,rfl,rfl,rfl,qH Cn.ms (hi2.symm)⟩,⟨_,rfl,rfl,rfl,sk⟩,trivial⟩ rfl,by show ds.length - (k+1)<ds.length - k;omega⟩):p:=h
theorem MAa(h:p:=by exact⟨by omega,(Kn.mk nm card _).cells,AO,rfl⟩):p:=h
theorem MAb(h:p:=by exact⟨by omega,(⟨.mk op n rel val r st ar,Ah⟩:Cs).cells,AO,rfl⟩):p:=h
theorem MAc(h:p:=by exact⟨st.length - 1,by have:=LJ o5;omega⟩):p:=h
theorem MAd(h:p:=by exact⟨(k+1,true),⟨by show k+1<=AJ.length;omega,(qE (Ch.2 (.inr e1.symm))).symm⟩,AA [] [] [] rfl (sk) (sk) rfl,by show AJ.length - (k+1)<AJ.length - k;omega⟩):p:=h
theorem MAe(h:p:=by simp_all):p:=h
theorem MAf(h:p:=by exact⟨(j+1,false),⟨by show j+1<=k;omega,(qF (fun h=>(Ch.1 h).elim Bt fun e=>e1 e.symm)).symm⟩,AA [] [] [] rfl (sk) (sk) rfl,by show k - (j+1)<k - j;omega⟩):p:=h
theorem MAg(h:p:=by exact⟨(0,false),⟨qL _,by simp⟩,AA [] [] [] rfl (sk) (sk) rfl⟩):p:=h
theorem MAh(h:p:=by exact⟨(k+1,true),⟨by show k+1<=AJ.length;omega,(qE (Ch.2 (.inl FY))).symm⟩,AA [] [] [] rfl (sk) (sk) rfl,by show AJ.length - (k+1)<AJ.length - k;omega⟩):p:=h
theorem MAi(h:p:=by exact⟨[],[],[], .returned (.p (i64 8)),GQ ds a es l,rfl,sk,sk,Gg (by rw [hR,hg,qM w1]),rfl⟩):p:=h
theorem MAj(h:p:=by exact⟨[],[],[], .returned (.p (i64 0)),GQ ds a es l,rfl,sk,sk,Gg (by rw [hR,hg,qG w1]),rfl⟩):p:=h
theorem MAk(h:p:=by
 refine⟨sk,?_⟩
 refine AA [] [] [] rfl (sk) ?_ rfl
 exact⟨⟨_,rfl,rfl,rfl,_,rfl,_,_,rfl,rfl,_,_,rfl,rfl,_,_,rfl,A9 _ _,rfl⟩,⟨_,rfl,rfl,rfl,_,rfl,_,_,rfl,rfl,_,_,rfl,rfl,_,_,rfl,rfl,rfl⟩,
 ⟨_,rfl,rfl,rfl,rfl⟩,⟨_,rfl,rfl,rfl,_,rfl,_,_,rfl,rfl,_,_,rfl,rfl,rfl⟩,⟨_,rfl,rfl,rfl,_,rfl,_,_,rfl,rfl,_,_,rfl,A9 _ _,rfl⟩,⟨_,rfl,rfl,rfl,_,rfl,_,_,rfl,A9 _ _,rfl⟩,⟨_,rfl,rfl,rfl,_,rfl,_,_,rfl,rfl,_,_,rfl,rfl,_,_,rfl,rfl,_,_,rfl,rfl,rfl⟩,trivial⟩):p:=h
theorem MAl(h:p:=by exact AL _ rfl rfl rfl):p:=h
theorem MAm(h:p:=by exact⟨[],[],[], .returned (.p (i64 0)),GQ ds a es l,rfl,sk,sk,Gg (by rw [hR]),rfl⟩):p:=h
theorem MAo(h:p:=by
 refine qA (fun n1=>?_) (fun n1=>?_)
 ·have n1:(j:Int)<(k:Nat):=n1
  have hj:j<AJ.length:=by omega
  have hcj:=G7 hj
  have Ch:(x∈AJ.take (j+1)) ↔ (x∈AJ.take j∨x=AJ.getD j Bu):=by rw [AU Bu hj,qa,qP]
  generalize AJ.getD j Bu=y at hcj Ch
  refine AR WQ MK ?_
  refine⟨_,⟨by omega,y.cells,hcj,rfl⟩,?_⟩
  refine⟨_,Ma,?_⟩
  refine⟨⟨by kernel_rfl,MK⟩,fun e1=>?_,fun e1=>?_⟩
  ·have e1:y=x:=Ju (by first | exact e1 | (injection e1))
   refine⟨_,wrap_i64 (by omega) ME,?_⟩
   exact⟨(j+1,true),⟨by show j+1<=k;omega,(qE (Ch.2 (.inr e1.symm))).symm⟩,AA [] [] [] rfl (sk) (sk) rfl,by show k - (j+1)<k - j;omega⟩
  ·have e1:¬ y=x:=fun e=>e1 (by rw [e])
   have Bt:¬ x∈AJ.take j:=kP j2.symm
   refine⟨_,wrap_i64 (by omega) ME,?_⟩
   exact MAf
 ·have n1:¬ (j:Int)<(k:Nat):=n1
  have XB:j=k:=by omega
  have Bt:¬ x∈AJ.take k:=by rw [XB] at j2;exact kP j2.symm
  rw [qG Bt] at BJ
  clear XB n1 j1 j2
  refine AR WT MK ?_
  refine⟨_,Ma,?_⟩
  refine Gn.eq rfl ?_
  refine Gx (fun z=>?_) (fun z=>?_)
  ·have z:0<kk:=z
   rw [Dm,qG (show ¬ kk=0 by omega)] at BJ
   refine⟨_,Ma,?_⟩
   refine⟨MO,[Ac.cells (Ac.mk kk ((l.map De.cells).length:Nat) x.name)],rfl,?_⟩
   refine MAE ?_
   refine⟨_,wrap_i64 (by omega) ME,?_⟩
   exact⟨(k+1,(cur)++[Ac.mk kk ((l.map De.cells).length:Nat) x.name]),⟨by show k+1<=AJ.length;omega,by rw [<- k2];rw [BJ,qO] <;> rfl⟩,AA [] [(1,3)] [] rfl ⟨rfl,rfl,MC,qH (fun j:Nat=>AV.sl 3 3 0 j) (Ak cur _).symm,rfl,rfl,trivial⟩ (sk) rfl,by show AJ.length - (k+1)<AJ.length - k;omega⟩
  ·have z:¬ 0<kk:=z
   rw [Dm,qM (show kk=0 by omega)] at BJ
   refine⟨_,wrap_i64 (by omega) ME,?_⟩
   exact⟨(k+1,cur),⟨by show k+1<=AJ.length;omega,by rw [<- k2];rw [BJ] <;> rfl⟩,AA [] [(1,1)] [] rfl ⟨rfl,rfl,MC,rfl,rfl,rfl,trivial⟩ (sk) rfl,by show AJ.length - (k+1)<AJ.length - k;omega⟩):p:=h
theorem MAp(h:p:=by
 refine qA (fun n1=>?_) (fun n1=>?_)
 ·have n1:(j:Int)<(k:Nat):=n1
  have hj:j<AJ.length:=by omega
  have Ch:(x∈AJ.take (j+1)) ↔ (x∈AJ.take j∨x=AJ.getD j Bu):=by rw [AU Bu hj,qa,qP]
  have FY:x∈AJ.take j:=kK j2.symm
  refine AR WQ MK ?_
  refine⟨_,wrap_i64 (by omega) ME,?_⟩
  exact⟨(j+1,true),⟨by show j+1<=k;omega,(qE (Ch.2 (.inl FY))).symm⟩,AA [] [] [] rfl (sk) (sk) rfl,by show k - (j+1)<k - j;omega⟩
 ·have n1:¬ (j:Int)<(k:Nat):=n1
  have XB:j=k:=by omega
  have FY:x∈AJ.take k:=by rw [XB] at j2;exact kK j2.symm
  rw [qM FY] at BJ
  clear XB n1 j1 j2
  refine⟨_,Ma,?_⟩
  refine⟨MO,[Ac.cells (Ac.mk 2 ((l.map De.cells).length:Nat) x.name)],rfl,?_⟩
  refine MAG ?_
  refine AR WT MK ?_
  refine⟨_,Ma,?_⟩
  refine Gn.eq rfl ?_
  refine Gx (fun z=>?_) (fun z=>?_)
  ·have z:0<kk:=z
   rw [Dm,qG (show ¬ kk=0 by omega)] at BJ
   refine⟨_,Ma,?_⟩
   refine⟨MO,[Ac.cells (Ac.mk kk ((l.map De.cells).length:Nat) x.name)],rfl,?_⟩
   refine Mc ?_
   refine⟨_,wrap_i64 (by omega) ME,?_⟩
   exact⟨(k+1,(cur++[Ac.mk 2 ((l.map De.cells).length:Nat) x.name])++[Ac.mk kk ((l.map De.cells).length:Nat) x.name]),⟨by show k+1<=AJ.length;omega,by rw [<- k2];rw [BJ,qO,qO] <;> rfl⟩,AA [] [(1,5)] [] rfl ⟨rfl,rfl,MC,qH (fun j:Nat=>AV.sl 5 3 0 j) ((Ak _ _).trans (qH (fun z:Nat=>z+1) (Ak cur _))).symm,rfl,rfl,trivial⟩ (sk) rfl,by show AJ.length - (k+1)<AJ.length - k;omega⟩
  ·have z:¬ 0<kk:=z
   rw [Dm,qM (show kk=0 by omega)] at BJ
   refine⟨_,wrap_i64 (by omega) ME,?_⟩
   exact⟨(k+1,cur++[Ac.mk 2 ((l.map De.cells).length:Nat) x.name]),⟨by show k+1<=AJ.length;omega,by rw [<- k2];rw [BJ,qO] <;> rfl⟩,AA [] [(1,3)] [] rfl ⟨rfl,rfl,MC,qH (fun j:Nat=>AV.sl 3 3 0 j) (Ak cur _).symm,rfl,rfl,trivial⟩ (sk) rfl,by show AJ.length - (k+1)<AJ.length - k;omega⟩):p:=h
theorem MAr(h:p:=by
 by_cases r1:CU r=true
 rotate_left
 ·rw [qQ] at r1
  rw [r1] at Gn
  refine Gn.eq rfl ?_
  exact⟨[],[],[], .returned (vB false),⟨1,[]⟩,rfl,sk,trivial,by rw [Bt (by simp [Ay,Az,Av, *])];exact MC⟩
 rw [r1] at Gn
 refine Gn.eq rfl ?_
 by_cases r2:DW n=true
 rotate_left
 ·rw [qQ] at r2
  rw [r2] at NJ
  refine NJ.eq rfl ?_
  exact⟨[],[],[], .returned (vB false),⟨1,[]⟩,rfl,sk,trivial,by rw [Bt (by simp [Ay,Az,Av, *])];exact MC⟩
 rw [r2] at NJ
 refine NJ.eq rfl ?_
 refine And.intro (fun r3=>?_) (fun r3=>?_)
 rotate_left
 ·have r3:¬ rel=0:=r3
  exact⟨[],[],[], .returned (vB false),⟨1,[]⟩,rfl,sk,trivial,by rw [Bt (by simp [Ay,Az,Av, *])];exact MC⟩
 have r3:rel=0:=r3
 refine And.intro (fun r4=>?_) (fun r4=>?_)
 rotate_left
 ·have r4:¬ val=0:=r4
  exact⟨[],[],[], .returned (vB false),⟨1,[]⟩,rfl,sk,trivial,by rw [Bt (by simp [Ay,Az,Av, *])];exact MC⟩
 have r4:val=0:=r4
 refine And.intro (fun r5=>?_) (fun r5=>?_)
 rotate_left
 ·have r5:¬ ((st.map i64).length:Int)=0:=r5
  have r5:¬ st=[]:=fun e=>r5 (by rw [e];rfl)
  exact⟨[],[],[], .returned (vB false),⟨1,[]⟩,rfl,sk,trivial,by rw [Bt (by simp [Ay,Az,Av, *])];exact MC⟩
 have r5:((st.map i64).length:Int)=0:=r5
 have r5:st=[]:=by rw [qB] at r5;exact qf.1 ME
 by_cases hk:ar.length=0
 rotate_left
 ·refine And.intro (fun h=>absurd (show((ar.map Cd.cells).length:Int)=0 from h) MAI) (fun _=>?_)
  exact⟨[],[],[], .returned (vB false),⟨1,[]⟩,rfl,sk,trivial,by rw [Bt (by simp [Ay,Az, *])];exact MC⟩
 refine And.intro (fun _=>?_) (fun h=>absurd (show((ar.map Cd.cells).length:Int)=0 from MAI) h)
 refine And.intro (fun h=>absurd (show(0:Int)<0 from h) ML) (fun _=>?_)
 exact MB):p:=h
theorem MAs(h:q)(e:q->p:=by intro z;exact⟨_,wrap_i64 (by omega) ME,z⟩):p:=e h
theorem MAt(h:p:=by
 refine⟨by show 0+i<=(l.map Kn.cells).length;rw [qB];omega,l.map Kn.cells,AB MAI,by show(i+1) * 32<=140737488355328;omega,(l++[(Kn.mk [101] 2 false)]).map Kn.cells,by simp,?_⟩
 have k4:=k2.aC4 (d:=⟨4,2,[101],[],rs,[]⟩) (ny (Be.refl _) (VY 11)) (ig (n:=2) (nm:=[101]) (by decide) (by decide) ML XD.refs XD.len) (by show(4:Int)<=4;decide)
 have k5:LkS (l++[Kn.mk [101] 2 false]) (i+1):=k3.snoc ⟨by show Bb [101]=true;decide,rfl, .inl rfl⟩
 clear k2 k3 Lv ha hY hL
 generalize Y++[[i64 4,i64 2, .str [101], .str [],FX rs, .Ad]]=Y at k4 ⊢
 generalize l++[Kn.mk [101] 2 false]=l at k5 ⊢
 refine⟨Nat × List (List PV),fun x=>[(1, .ptr 0 0 0),(2, .ptr 1 0 0),(4, .p (i64 sz)),(5, .ptr 3 0 0),(6, .sl 4 3 0 (i+1)),(15, .p (i64 x.1))],fun x=>⟨5,[(4,kwO l),(3,rF (.sl 2 6 0 (2+i+1+x.1))),(2,dyO x.2),(1,rF (.p .Ad)),(0,dpO ⟨gr,pt,ns,ch,gs,true⟩)]⟩,fun x=>x.1<=2/\iZ true x.2 (2+i+1+x.1) (22+201 * i+33+192 * x.1),fun x=>2 - x.1,?_,?_⟩
 ·exact⟨(0,Y),⟨by show 0<=2;decide,k4⟩,AA [] [(2,8),(4,10)] [] rfl (sk) (sk) rfl⟩
 rintro⟨j,Y⟩ ⟨j1,k2⟩
 simp only [] at j1 k2
 have hY:=k2.len
 by_cases hb:j<gs.length/\j<2
 rotate_left
 ·by_cases hj:j<gs.length
  ·refine And.intro (fun _=>?_) (fun h=>absurd (show(j:Int)<((gs.map Pt.cells).length:Nat) by rw [hgs];omega) h)
   refine And.intro (fun h=>absurd (show(j:Int)<2 from h) ME) (fun _=>?_)
   exact AL (.agg [.Ai 6 Y]) rfl ⟨_,rfl,_,_,rfl,⟨_,rfl,by show 0+(2+i+1+j)<=Y.length;omega,AB ME⟩,rfl⟩ ⟨_,_,_,rfl,k2.up,by omega,by omega,by omega⟩
  ·refine And.intro (fun h=>absurd (show(j:Int)<((gs.map Pt.cells).length:Nat) from h) (by rw [hgs];omega)) (fun _=>?_)
   exact AL (.agg [.Ai 6 Y]) rfl ⟨_,rfl,_,_,rfl,⟨_,rfl,by show 0+(2+i+1+j)<=Y.length;omega,AB ME⟩,rfl⟩ ⟨_,_,_,rfl,k2.up,by omega,by omega,by omega⟩
 obtain⟨hj,hj2⟩:=hb
 have AO:=aBZ hj
 have rA:=hd4 _ (Aa pt0 hj)
 generalize gs.getD j pt0=p at AO rA
 obtain⟨kind,card,SC,Eu,pl,ps,x,y,z⟩:=p
 refine And.intro (fun _=>?_) (fun h=>absurd (show(j:Int)<((gs.map Pt.cells).length:Nat) by rw [hgs];omega) h)
 refine And.intro (fun _=>?_) (fun h=>absurd (show(j:Int)<2 by omega) h)
 refine⟨_,⟨by omega,(Pt.mk kind card SC Eu pl ps x y z).cells,AO,rfl⟩,?_⟩
 refine ic (pargs:=[.agg ((Pt.mk kind card SC Eu pl ps x y z)).cells, .Ai 3 ((l).map Kn.cells), .bool false,i64 sz]) (Qt (Pt.mk kind card SC Eu pl ps x y z) (l) (k5).ok (by have:=(k5).len;omega) false sz hs).holds [4] rfl ⟨_,_,rfl,rfl,_,_,rfl,⟨_,rfl,by show 0+(i+1)<=((l).map Kn.cells).length;rw [qB];have:=(k5).len;omega,AB (by rw [qB];have:=(k5).len;omega)⟩,_,_,rfl,rfl,_,_,rfl,rfl,rfl⟩ fun e0 H0 hq=>?_
 obtain⟨rs,cs,rfl,rfl,XD⟩:=hq
 refine⟨rfl,⟨Nk _,Qs _,trivial⟩,_,⟨7,(5,Z5 rs)::(6,iO cs)::[(4,kwO l),(3,rF (.sl 2 6 0 (2+i+1+j))),(2,dyO Y),(1,rF (.p .Ad)),(0,dpO ⟨gr,pt,ns,ch,gs,true⟩)]⟩,rfl,rfl,?_⟩
 refine AR aMC MK ?_
 refine⟨_,⟨by omega,(Pt.mk kind card SC Eu pl ps x y z).cells,AO,rfl⟩,?_⟩
 refine(UK _ rs cs XD 0 0 ⟨.inl MC⟩ rA).use [5,6] rfl ⟨_,_,rfl,rfl,_,_,rfl,⟨_,rfl,by show 0+rs.length<=(rs.map Rf.cells).length;simp,AB (by simp)⟩,_,_,rfl,⟨_,rfl,by show 0+cs.length<=(cs.map i64).length;simp,AB (by simp)⟩,_,_,rfl,rfl,_,_,rfl,rfl,rfl⟩ fun r hr=>?_
 obtain⟨L,rfl,hLs⟩:=hr
 refine⟨⟨rfl,trivial⟩,?_⟩
 refine⟨⟨rfl,trivial⟩,?_⟩
 refine⟨MO,_,rfl, .inl ⟨[],[[i64 5,i64 0, .str [], .str [],FX rs,(OI L)]],rfl,⟨_,_,rfl,⟨_,_,rfl,rfl,_,_,rfl,rfl,_,_,rfl,rfl,_,_,rfl,rfl,_,_,rfl,⟨_,rfl,by show 0+rs.length<=(rs.map Rf.cells).length;simp,AB (by simp)⟩,_,_,rfl,(by first | exact rfl | exact .inl rfl),rfl⟩,rfl⟩,?_⟩⟩
 refine⟨by show 0+(2+i+1+j)<=Y.length;omega,Y,AB ME,by show(2+i+1+j+1) * 96<=140737488355328;omega,Y++[[i64 5,i64 0, .str [], .str [],FX rs,(OI L)]],rfl,?_⟩
 refine⟨((j+1:Nat):Int),by rw [qZ];exact wrap_i64 (by omega) ME,?_⟩
 exact⟨(j+1,Y++[[i64 5,i64 0, .str [], .str [],FX rs,OI L]]),⟨by show j+1<=2;omega,(k2.aC4 (d:=⟨5,0,[],[],rs,L⟩) (BL.refl _) (aC5 XD.refs XD.len hLs) (by show(4:Int)<=5;decide)).le (by show 22+201 * i+33+192 * j+192<=22+201 * i+33+192 * (j+1);omega)⟩,AA [] [(2,8)] [] rfl (sk) (sk) rfl,by show 2 - (j+1)<2 - j;omega⟩):p:=h
theorem MAu(h:p:=by
 refine⟨by show(0:Int)<=0/\(0:Int)<3;decide,?_⟩
 refine⟨.p (u8 x),Pb MK rfl,?_⟩
 refine⟨(x.toNat:Int),wrap_i64 ME (by have:=x.toNat_lt;omega),?_⟩
 refine⟨ML,?_⟩
 have hz:=Gs (kV x.toNat) (show(0:Int)<21 from ML)
 generalize (x.toNat:Int).tmod 21=zz at hz ⊢
 refine⟨zz - 10,wrap_i64 (by omega) ME,?_⟩
 by_cases hg0:0<g
 ·refine And.intro (fun _=>?_) (fun h=>absurd hg0 h)
  obtain⟨hk,hg1,hg2⟩:(k=2∨k=3)/\1<=g/\g<=12:=by
   rcases hg.ok with h | h
   ·omega
   ·exact h
  refine(Qu x y z k g hk ⟨by omega,hg2⟩).at fun r hr=>?_
  obtain⟨l,rfl,hl⟩:=hr
  refine⟨MO,[WY++[ints l]],rfl,?_⟩
  exact Mr
 ·refine And.intro (fun h=>absurd h hg0) (fun _=>?_)
  refine⟨MO,_,rfl, .inl ⟨[2],[WY++[ints [zz - 10]]],rfl,⟨_,_,rfl,⟨_,_,rfl,rfl,_,_,rfl,rfl,_,_,rfl,rfl,_,_,rfl,rfl,_,_,rfl,rfl,_,_,rfl,rfl,_,_,rfl,rfl,_,_,rfl,rfl,_,_,rfl, .inl rfl,_,_,rfl, .inl rfl,_,_,rfl,⟨_,rfl,qN _,rfl⟩,rfl⟩,rfl⟩,?_⟩⟩
  refine⟨by show 0+out.length<=(out.map Cs.cells).length;simp,out.map Cs.cells,AB (by simp),by show(out.length+1) * 152<=140737488355328;have:=k2.len;omega,out.map Cs.cells++[WY++[ints [zz - 10]]],rfl,?_⟩
  refine AL (.Ai 11 (out.map Cs.cells++[WY++[ints [zz - 10]]])) rfl ⟨_,rfl,by show 0+(out.length+1)<=(out.map Cs.cells++[WY++[ints [zz - 10]]]).length;simp,AB (by simp)⟩ ⟨_,out++[⟨Fy,[zz - 10]⟩],rfl,KM out [zz - 10],Qv (by have:=k2.len;omega) k2.cs ⟨rfl,(nz ME)⟩⟩):p:=h
theorem MAv(h:p:=by exact⟨_,rfl,rfl,rfl,rfl⟩):p:=h
theorem MAw(h:p:=by exact⟨(k+1,V),⟨by show k+1<=ds.length;omega,by show Ao [] (ds.take (k+1))<=6 * (k+1);omega,hV⟩,AA [] [] [] rfl ⟨MC,qH (fun z:Nat=>i64 z) hN,qH (fun z:Nat=>i64 z) hG,rfl,rfl,trivial⟩ (sk) rfl,by show ds.length - (k+1)<ds.length - k;omega⟩):p:=h
theorem MAy(h:p:=by
 by_cases r1:CU r=true
 rotate_left
 ·rw [qQ] at r1
  rw [r1] at Gn
  refine Gn.eq rfl ?_
  exact MW
 rw [r1] at Gn
 refine Gn.eq rfl ?_
 by_cases r2:DW n=true
 rotate_left
 ·rw [qQ] at r2
  rw [r2] at NJ
  refine NJ.eq rfl ?_
  exact MW
 rw [r2] at NJ
 refine NJ.eq rfl ?_
 refine qA (fun r3=>?_) (fun r3=>?_)
 rotate_left
 ·have r3:¬ rel=0:=r3
  exact MW
 have r3:rel=0:=r3
 refine qA (fun r4=>?_) (fun r4=>?_)
 rotate_left
 ·have r4:¬ val=0:=r4
  exact MW
 have r4:val=0:=r4
 refine qA (fun r9=>?_) (fun r9=>?_)
 rotate_left
 ·have r9:¬ ((st.map i64).length:Int)=0:=r9
  have r9:¬ st=[]:=fun e=>r9 (by rw [e];rfl)
  exact MW
 have r9:((st.map i64).length:Int)=0:=r9
 have r9:st=[]:=by rw [qB] at r9;exact qf.1 ME
 exact MW):p:=h
theorem MAz(h:p:=by rw [qZ];exact wrap_i64 (by omega) ME):p:=h
theorem MA0(h:p:=by
 refine⟨by(repeat' first | exact trivial | exact rfl | exact qH (fun z:Int=>AV.p (.int .i64 z)) (wrap_i64 (n:=((n % 2:Nat):Int)) (by omega) ME) | refine And.intro ?_ ?_),?_⟩
 refine MAD ?_
 refine Or.inl ⟨[4,5,6,7,8],Fb n ((0:Int)) ([i64 7,i64 0,i64 0,i64 0, .str [],i64 0, .str [],i64 0, .Ad, .Ai 10 [CQ n]]),rfl,MH,?_⟩
 refine⟨Cy,p.map De.cells,Cz,C8,p.map De.cells++Fb n ((0:Int)) ([i64 7,i64 0,i64 0,i64 0, .str [],i64 0, .str [],i64 0, .Ad, .Ai 10 [CQ n]]),rfl,?_⟩
 exact AL (.agg [.Ai 6 (p.map De.cells++Fb n ((0:Int)) ([i64 7,i64 0,i64 0,i64 0, .str [],i64 0, .str [],i64 0, .Ad, .Ai 10 [CQ n]]))]) (by kernel_rfl) (Hg (n:=13) (t:=76) (by kernel_rfl) MK (C9 _)) (by rw [hW])):p:=h
theorem MA1(h:p:=by
 refine⟨by(repeat' first | exact trivial | exact rfl | exact qH (fun z:Int=>AV.p (.int .i64 z)) (wrap_i64 (n:=((n % 2:Nat):Int)) (by omega) ME) | refine And.intro ?_ ?_),?_⟩
 refine MAD ?_
 refine Or.inl ⟨[4,5,6,7,8],Fb n (g) ([i64 7,i64 0,i64 0,i64 0, .str [],i64 0, .str [],i64 0, .Ad, .Ai 10 [CQ n]]),rfl,MH,?_⟩
 refine⟨Cy,p.map De.cells,Cz,C8,p.map De.cells++Fb n (g) ([i64 7,i64 0,i64 0,i64 0, .str [],i64 0, .str [],i64 0, .Ad, .Ai 10 [CQ n]]),rfl,?_⟩
 exact AL (.agg [.Ai 6 (p.map De.cells++Fb n (g) ([i64 7,i64 0,i64 0,i64 0, .str [],i64 0, .str [],i64 0, .Ad, .Ai 10 [CQ n]]))]) (by kernel_rfl) (Hg (n:=13) (t:=76) (by kernel_rfl) MK (C9 _)) (by rw [hW])):p:=h
theorem MA2(h:p:=by
 rw [<- e2]
 refine(hC).holds.BB [] [(2,6)] rfl (sk) (sk) fun e0 H0 hq=>?_
 obtain⟨rfl,rfl⟩:=hq
 refine⟨rfl,_,⟨8,(7,Bz (L3))::(1,EX es)::(0,Ej ds (a:Nat) 7 (L3).length)::[(5,dK Ab),(3,Bl ⟨dk,dn,AQ,Ab,AJ,AZ⟩)]⟩,rfl,rfl,?_⟩
 refine(hF).holds.BB [] [(2,7)] rfl (sk) (sk) fun e0 H0 hq=>?_
 obtain⟨rfl,rfl⟩:=hq
 refine⟨rfl,_,⟨9,(8,Bz (L4))::(1,EX es)::(0,Ej ds (a:Nat) 8 (L4).length)::[(5,dK Ab),(3,Bl ⟨dk,dn,AQ,Ab,AJ,AZ⟩)]⟩,rfl,rfl,?_⟩
 refine⟨_,⟨ML,(De.mk ek en enm epl ers ecs).cells,h0,rfl⟩,?_⟩
 refine qA (fun e1=>?_) (fun e1=>?_)
 ·have e1:ek=1:=e1
  rw [qM e1] at hg
  refine⟨_,⟨ML,(De.mk ek en enm epl ers ecs).cells,h0,rfl⟩,?_⟩
  subst hg
  refine hX.holds.BB [] [(2,8),(4,9)] rfl (sk) (sk) fun e0 H0 hq=>?_
  obtain⟨rfl,rfl⟩:=hq
  refine⟨rfl,_,⟨11,(10,Bz R)::(9,rD g)::(3,Bl ⟨dk,dn,AQ,Ab,AJ,AZ⟩)::(1,EX es)::(0,Ej ds (a:Nat) 10 R.length)::[(5,dK Ab)]⟩,rfl,rfl,?_⟩
  exact⟨[],[(3,10)],[], .returned Bv,VI ds a es R,rfl,sk,sk,rfl,rfl⟩
 ·have e1:¬ ek=1:=e1
  rw [qG e1] at hg
  subst hg
  refine hX.holds.BB [] [(2,8),(4,9)] rfl (sk) (sk) fun e0 H0 hq=>?_
  obtain⟨rfl,rfl⟩:=hq
  refine⟨rfl,_,⟨11,(10,Bz R)::(9,rD 0)::(3,Bl ⟨dk,dn,AQ,Ab,AJ,AZ⟩)::(1,EX es)::(0,Ej ds (a:Nat) 10 R.length)::[(5,dK Ab)]⟩,rfl,rfl,?_⟩
  exact⟨[],[(3,10)],[], .returned Bv,VI ds a es R,rfl,sk,sk,rfl,rfl⟩):p:=h
theorem MA3(h:q)(e:q->p:=by intro z;exact And.intro (fun h=>absurd (show(390:Int)=0 from h) ML) (fun _=>z)):p:=e h
theorem MA4(h:p:=by
 refine AR ik MK ?_
 refine⟨_,Qw w,?_⟩
 refine⟨ML,_,Qx n,?_⟩
 refine⟨⟨rfl,rfl,trivial⟩,?_⟩
 refine⟨⟨rfl,trivial⟩,?_⟩
 refine AR il MK ?_
 refine⟨ML,?_⟩
 have e2:((m.toNat % 2:Nat):Int)=IntKind.i64.wrap ((m.toNat:Int).tmod 2):=by
  rw [show(m.toNat:Int).tmod 2=((m.toNat % 2:Nat):Int) from rfl];exact wrap_i64 (by omega) ME
 refine⟨((m.toNat % 2:Nat):Int),e2,?_⟩
 refine⟨8+((m.toNat % 2:Nat):Int),wrap_i64 (by omega) ME,?_⟩
 refine(KN ⟨UInt8.ofNat (w.toNat+1),o,UInt8.ofNat (n.toNat / 2),7,x,y,z⟩ rs cs h (by show 3<=(7:UInt8).toNat % 8;decide)).at fun r hr=>?_
 obtain⟨⟨ao,an,ar,av,af,G8,aa⟩,rfl,bJ⟩:=hr
 refine⟨⟨rfl,qH (fun z:Int=>AV.p (.int .i64 z)) e2,rfl,trivial⟩,?_⟩
 refine⟨⟨qH (fun z:Int=>AV.p (.int .i64 z)) e2,rfl,trivial⟩,?_⟩
 refine AL (.agg [i64 (8+((m.toNat % 2:Nat):Int)),i64 0,i64 0,i64 0, .str [],i64 0, .str [],i64 0, .Ad, .Ai 10 [[i64 6,i64 q,i64 (1+((o.toNat % 4:Nat):Int)),i64 v, .str nm,i64 md, .str pl,i64 rn, .Ad, .Ad],(Cd.mk ao an ar av af G8 aa).cells]]) rfl MU ?_
 exact⟨_, .mk (8+((m.toNat % 2:Nat):Int)) 0 0 0 Bu [] [.mk 6 q (1+((o.toNat % 4:Nat):Int)) v ⟨nm,md,pl,rn⟩ [] [], .mk ao an ar av af G8 aa],3,rfl,Ot _ (Qy (F3 6 q (1+((o.toNat % 4:Nat):Int)) v ⟨nm,md,pl,rn⟩) (Be.refl _)),by decide,PQ.two ME (hC1 6) (bJ 6)⟩):p:=h
theorem MA5(h:p:=by
 refine AR ik MK ?_
 refine⟨_,Qw w,?_⟩
 refine⟨ML,_,Qx n,?_⟩
 refine⟨⟨rfl,rfl,trivial⟩,?_⟩
 refine⟨⟨rfl,trivial⟩,?_⟩
 refine AR il MK ?_
 refine⟨ML,?_⟩
 have e2:((m.toNat % 2:Nat):Int)=IntKind.i64.wrap ((m.toNat:Int).tmod 2):=by
  rw [show(m.toNat:Int).tmod 2=((m.toNat % 2:Nat):Int) from rfl];exact wrap_i64 (by omega) ME
 refine⟨((m.toNat % 2:Nat):Int),e2,?_⟩
 refine⟨8+((m.toNat % 2:Nat):Int),wrap_i64 (by omega) ME,?_⟩
 refine(KN ⟨UInt8.ofNat (w.toNat+1),o,UInt8.ofNat (n.toNat / 2),7,x,y,z⟩ rs cs h (by show 3<=(7:UInt8).toNat % 8;decide)).at fun r hr=>?_
 obtain⟨⟨ao,an,ar,av,af,G8,aa⟩,rfl,bJ⟩:=hr
 refine⟨⟨rfl,qH (fun z:Int=>AV.p (.int .i64 z)) e2,rfl,trivial⟩,?_⟩
 refine⟨⟨qH (fun z:Int=>AV.p (.int .i64 z)) e2,rfl,trivial⟩,?_⟩
 refine AL (.agg [i64 (8+((m.toNat % 2:Nat):Int)),i64 0,i64 0,i64 0, .str [],i64 0, .str [],i64 0, .Ad, .Ai 10 [[i64 (1+((o.toNat % 4:Nat):Int)),i64 v,i64 0,i64 0, .str nm,i64 md, .str pl,i64 rn, .Ad, .Ad],(Cd.mk ao an ar av af G8 aa).cells]]) rfl MU ?_
 exact⟨_, .mk (8+((m.toNat % 2:Nat):Int)) 0 0 0 Bu [] [.mk (1+((o.toNat % 4:Nat):Int)) v 0 0 ⟨nm,md,pl,rn⟩ [] [], .mk ao an ar av af G8 aa],3,rfl,Ot _ (Qy (F3 (1+((o.toNat % 4:Nat):Int)) v 0 0 ⟨nm,md,pl,rn⟩) (Be.refl _)),by decide,PQ.two ME (hC2 6) (bJ 6)⟩):p:=h
theorem MA6(h:p:=by
 subst e2
 refine(hC).holds.BB [] [(2,4)] rfl (sk) (sk) fun e0 H0 hq=>?_
 obtain⟨rfl,rfl⟩:=hq
 refine⟨rfl,_,⟨6,(5,Bz (L3))::(1,EX es)::(0,Ej ds (a:Nat) 5 (L3).length)::[(3,Bl ⟨dk,dn,AQ,Ab,AJ,AZ⟩)]⟩,rfl,rfl,?_⟩
 refine(hF).holds.BB [] [(2,5)] rfl (sk) (sk) fun e0 H0 hq=>?_
 obtain⟨rfl,rfl⟩:=hq
 refine⟨rfl,_,⟨7,(6,Bz (L4))::(1,EX es)::(0,Ej ds (a:Nat) 6 (L4).length)::[(3,Bl ⟨dk,dn,AQ,Ab,AJ,AZ⟩)]⟩,rfl,rfl,?_⟩
 refine⟨_,⟨ML,(De.mk ek en enm epl ers ecs).cells,h0,rfl⟩,?_⟩
 refine qA (fun e1=>?_) (fun e1=>?_)
 ·have e1:ek=1:=e1
  rw [qM e1] at hg
  refine⟨_,⟨ML,(De.mk ek en enm epl ers ecs).cells,h0,rfl⟩,?_⟩
  subst hg
  refine hX.holds.BB [] [(2,6),(4,7)] rfl (sk) (sk) fun e0 H0 hq=>?_
  obtain⟨rfl,rfl⟩:=hq
  refine⟨rfl,_,⟨9,(8,Bz R)::(7,rD g)::(3,Bl ⟨dk,dn,AQ,Ab,AJ,AZ⟩)::(1,EX es)::(0,Ej ds (a:Nat) 8 R.length)::[]⟩,rfl,rfl,?_⟩
  exact⟨[],[(3,8)],[], .returned Bv,VI ds a es R,rfl,sk,sk,rfl,rfl⟩
 ·have e1:¬ ek=1:=e1
  rw [qG e1] at hg
  subst hg
  refine hX.holds.BB [] [(2,6),(4,7)] rfl (sk) (sk) fun e0 H0 hq=>?_
  obtain⟨rfl,rfl⟩:=hq
  refine⟨rfl,_,⟨9,(8,Bz R)::(7,rD 0)::(3,Bl ⟨dk,dn,AQ,Ab,AJ,AZ⟩)::(1,EX es)::(0,Ej ds (a:Nat) 8 R.length)::[]⟩,rfl,rfl,?_⟩
  exact⟨[],[(3,8)],[], .returned Bv,VI ds a es R,rfl,sk,sk,rfl,rfl⟩):p:=h
theorem MA7(h:p:=by
 refine AR ik MK ?_
 refine⟨_,Qw w,?_⟩
 refine⟨ML,_,Qx n,?_⟩
 refine⟨⟨rfl,rfl,trivial⟩,?_⟩
 refine⟨⟨rfl,trivial⟩,?_⟩
 refine AR il MK ?_
 refine⟨ML,?_⟩
 have e2:((m.toNat % 2:Nat):Int)=IntKind.i64.wrap ((m.toNat:Int).tmod 2):=by
  rw [show(m.toNat:Int).tmod 2=((m.toNat % 2:Nat):Int) from rfl];exact wrap_i64 (by omega) ME
 refine⟨((m.toNat % 2:Nat):Int),e2,?_⟩
 refine⟨8+((m.toNat % 2:Nat):Int),wrap_i64 (by omega) ME,?_⟩
 refine(KN ⟨UInt8.ofNat (w.toNat+1),o,UInt8.ofNat (n.toNat / 2),7,x,y,z⟩ rs cs h (by show 3<=(7:UInt8).toNat % 8;decide)).at fun r hr=>?_
 obtain⟨⟨ao,an,ar,av,af,G8,aa⟩,rfl,bJ⟩:=hr
 refine⟨⟨rfl,qH (fun z:Int=>AV.p (.int .i64 z)) e2,rfl,trivial⟩,?_⟩
 refine⟨⟨qH (fun z:Int=>AV.p (.int .i64 z)) e2,rfl,trivial⟩,?_⟩
 refine AL (.agg [i64 (8+((m.toNat % 2:Nat):Int)),i64 0,i64 0,i64 0, .str [],i64 0, .str [],i64 0, .Ad, .Ai 10 [[i64 5,i64 0,i64 0,i64 0, .str nm,i64 md, .str pl,i64 rn, .Dh ((([0,1]:List Int).map i64).drop j), .Ad],(Cd.mk ao an ar av af G8 aa).cells]]) rfl MU ?_
 exact⟨_, .mk (8+((m.toNat % 2:Nat):Int)) 0 0 0 Bu [] [.mk 5 0 0 0 ⟨nm,md,pl,rn⟩ (([0,1]:List Int).drop j) [], .mk ao an ar av af G8 aa],3,rfl,Ot _ (Qy (Nl ⟨nm,md,pl,rn⟩ [0,1] j) (Be.refl _)),by decide,PQ.two ME (hC3 6) (bJ 6)⟩):p:=h
theorem MA8(h:q)(e:q->p:=by intro z;exact⟨((m:Nat):Int),by show _=IntKind.i64.wrap (((st.map i64).length:Nat) - 1:Int);rw [V7];exact wrap_i64 (by omega) ME,z⟩):p:=e h
theorem MBA(h:q)(e:q->p:=by intro z;exact⟨MO,[Ac.cells (Ac.mk 6 ((l.map De.cells).length:Nat) AQ)],rfl,z⟩):p:=e h
theorem MBB(h:p:=by
 refine qA (fun p3=>?_) (fun p3=>?_)
 rotate_left
 ·have p3:¬ ((d.refs.map Rf.cells).length:Int)=0:=p3
  have p3:¬ d.refs=[]:=fun e=>p3 (by rw [e];rfl)
  exact Mi
 have p3:((d.refs.map Rf.cells).length:Int)=0:=p3
 have p3:d.refs=[]:=by rw [qB] at p3;exact qf.1 ME
 refine qA (fun p4=>?_) (fun p4=>?_)
 rotate_left
 ·have p4:¬ ((d.cases.map Cs.cells).length:Int)=0:=p4
  have p4:¬ d.cases=[]:=fun e=>p4 (by rw [e];rfl)
  exact Mi
 have p4:((d.cases.map Cs.cells).length:Int)=0:=p4
 have p4:d.cases=[]:=by rw [qB] at p4;exact qf.1 ME
 exact Mi):p:=h
theorem MBC(h:p:=by
 refine⟨by(repeat' first | exact trivial | exact rfl | exact qH (fun z:Int=>AV.p (.int .i64 z)) (wrap_i64 (n:=((n % 2:Nat):Int)) (by omega) ME) | refine And.intro ?_ ?_),?_⟩
 refine MAD ?_
 refine Or.inl ⟨[4,5,6,7],Fb n ((0:Int)) (CQ n),rfl,MI,?_⟩
 refine⟨Cy,p.map De.cells,Cz,C8,p.map De.cells++Fb n ((0:Int)) (CQ n),rfl,?_⟩
 exact AL (.agg [.Ai 6 (p.map De.cells++Fb n ((0:Int)) (CQ n))]) (by kernel_rfl) (Hg (n:=12) (t:=76) (by kernel_rfl) MK (C9 _)) (by rw [hW])):p:=h
theorem MBD(h:p:=by exact⟨k+1,⟨by omega,by rw [hN];omega⟩,AA [] [] [] rfl ⟨MC,qH (fun z:Nat=>i64 z) hN,qH (fun z:Nat=>i64 z) hG,qH (fun z:Int=>i64 z) hW2.symm,rfl,rfl,rfl,trivial⟩ (sk) rfl,by show ds.length - (k+1)<ds.length - k;omega⟩):p:=h
theorem MBE(h:p:=by
 refine⟨by(repeat' first | exact trivial | exact rfl | exact qH (fun z:Int=>AV.p (.int .i64 z)) (wrap_i64 (n:=((n % 2:Nat):Int)) (by omega) ME) | refine And.intro ?_ ?_),?_⟩
 refine MAD ?_
 refine Or.inl ⟨[4,5,6,7],Fb n (g) (CQ n),rfl,MI,?_⟩
 refine⟨Cy,p.map De.cells,Cz,C8,p.map De.cells++Fb n (g) (CQ n),rfl,?_⟩
 exact AL (.agg [.Ai 6 (p.map De.cells++Fb n (g) (CQ n))]) (by kernel_rfl) (Hg (n:=12) (t:=76) (by kernel_rfl) MK (C9 _)) (by rw [hW])):p:=h
theorem MBF(h:p:=by exact⟨_,_,rfl,MC,_,_,rfl,rfl,_,_,rfl,⟨_,rfl,by show 0+1<=1;decide,rfl⟩,rfl⟩):p:=h
theorem MBG(h:p:=by exact⟨(j+1,Ex++[Ac.mk 9 ((l.map De.cells).length:Nat) []]),⟨by show j+1<=AZ.length;omega,j2⟩,AA [] [(1,4)] [] rfl ⟨rfl,rfl,MC,qH (fun j:Nat=>AV.sl 4 3 0 j) (Ak _ _).symm,rfl,rfl,trivial⟩ (sk) rfl,by show AZ.length - (j+1)<AZ.length - j;omega⟩):p:=h
theorem MBJ(h:p:=by
 refine qA (fun h1=>?_) (fun h1=>?_)
 rotate_left
 ·have h1:¬ ((Ah.map i64).length:Int)=1:=h1
  rw [hm] at h1
  exact AL _ rfl rfl (Af (by rw [hR,qF (show ¬ Ah.length=1 by omega)];rfl))
 have h1:((Ah.map i64).length:Int)=1:=h1
 rw [hm] at h1
 rw [qE (show Ah.length=1 by omega)] at hR
 have hc:=Ff (l:=Ah) (k:=0) ME
 generalize Ah.getD 0 0=x at hc hR
 refine⟨_,⟨ML,i64 x,hc,rfl⟩,?_⟩
 refine qA (fun h2=>?_) (fun h2=>?_)
 rotate_left
 ·have h2:¬ -100<=x:=h2
  exact AL _ rfl rfl (Af (by rw [hR,qF h2];rfl))
 have h2:-100<=x:=h2
 refine⟨_,⟨ML,i64 x,hc,rfl⟩,?_⟩
 refine qA (fun h3=>?_) (fun h3=>?_)
 ·have h3:x<=100:=h3
  exact AL _ rfl rfl (Af (by rw [hR,qE h2,qE h3];rfl))
 ·have h3:¬ x<=100:=h3
  exact AL _ rfl rfl (Af (by rw [hR,qE h2,qF h3];rfl))):p:=h
theorem MBK(h:p:=by
 by_cases hk:ar.length=2
 rotate_left
 ·refine And.intro (fun h=>absurd (show((ar.map Cd.cells).length:Int)=2 from h) MAI) (fun _=>?_)
  exact⟨[],[],[], .returned (vB false),⟨1,[]⟩,rfl,sk,trivial,by rw [Bt (by simp [Ay,Az, *])];exact MC⟩
 refine And.intro (fun _=>?_) (fun h=>absurd (show((ar.map Cd.cells).length:Int)=2 from MAI) h)
 refine And.intro (fun _=>?_) (fun h=>absurd (show(0:Int)<2 from ML) h)
 by_cases hp:Bo n rel val r st=true
 rotate_left
 ·rw [qQ] at hp
  rw [hp] at hP
  refine hP.eq rfl ?_
  exact⟨[],[],[], .returned (vB false),⟨1,[]⟩,rfl,sk,trivial,by rw [Bt (by simp [Ay,Az, *])];exact MC⟩
 rw [hp] at hP
 refine hP.eq rfl ?_
 exact MB):p:=h
theorem MBL(h:p:=by
 refine qA (fun p2=>?_) (fun p2=>?_)
 rotate_left
 ·have p2:¬ d.Ae=[]:=p2
  exact Mm
 have p2:d.Ae=[]:=p2
 refine qA (fun p3=>?_) (fun p3=>?_)
 rotate_left
 ·have p3:¬ ((d.refs.map Rf.cells).length:Int)=0:=p3
  rw [qB] at p3
  have p3:¬ d.refs=[]:=fun e=>p3 (by rw [e];rfl)
  exact Mm
 have p3:((d.refs.map Rf.cells).length:Int)=0:=p3
 rw [qB] at p3
 have p3:d.refs=[]:=qf.1 ME
 refine qA (fun p4=>?_) (fun p4=>?_)
 rotate_left
 ·have p4:¬ ((d.cases.map Cs.cells).length:Int)=0:=p4
  rw [qB] at p4
  have p4:¬ d.cases=[]:=fun e=>p4 (by rw [e];rfl)
  exact Mm
 have p4:((d.cases.map Cs.cells).length:Int)=0:=p4
 rw [qB] at p4
 have p4:d.cases=[]:=qf.1 ME
 exact Mm):p:=h
theorem MBM(h:p:=by decide):p:=h
theorem MBN(h:p:=by
 have o5:¬ op=5:=o5
 refine qA (fun p6=>?_) (fun p6=>?_)
 ·have p6:op=6:=p6
  have hg:FQ op n val st=val:=by rw [FQ,qG o5,qM p6]
  refine Tv.holds.BB [] [] rfl (sk) (sk) fun e0 H0 hq=>?_
  obtain⟨rfl,rfl⟩:=hq
  refine MS ?_
  refine qA (fun w1=>?_) (fun w1=>?_)
  ·have w1:kk<=val:=w1
   exact MAi
  ·have w1:¬ kk<=val:=w1
   exact MAj
 have p6:¬ op=6:=p6
 have hg:FQ op n val st=n:=by rw [FQ,qG o5,qG p6]
 refine Tv.holds.BB [] [] rfl (sk) (sk) fun e0 H0 hq=>?_
 obtain⟨rfl,rfl⟩:=hq
 refine MS ?_
 refine qA (fun w1=>?_) (fun w1=>?_)
 ·have w1:kk<=n:=w1
  exact MAi
 ·have w1:¬ kk<=n:=w1
  exact MAj):p:=h
theorem MBO(h:p:=by exact⟨0,qL _,AA [] [] [] rfl ⟨⟨rfl,rfl⟩,rfl,rfl,qH (fun z:Int=>i64 z) (by rw [ja,vP]),MC,rfl,rfl,rfl,rfl,rfl,trivial⟩ (sk) rfl⟩):p:=h
theorem MBP(h:p:=by
 refine(aCe ds 1).holds.BB [] [] rfl (sk) (sk) fun e0 H0 hq=>?_
 obtain⟨rfl,rfl⟩:=hq
 refine⟨rfl,_,⟨3,(2,Bz [⟨1,0,[]⟩])::(1,EX [])::(0,Ej ds 0 2 1)::[]⟩,rfl,rfl,?_⟩
 exact⟨Nat × List Ac,fun x=>[(0, .ptr 0 0 0),(2, .ptr 3 0 0),(42, .p (Dw ds)),(43, .p (i64 ds.length)),(44, .p (i64 x.1))],pgH ds,fun x=>x.1<=ds.length/\x.2=Fe ds++EP (BD ds) [] (ds.take x.1),fun x=>ds.length - x.1,⟨(0,[⟨1,0,[]⟩]),bV _ (by first | exact hd.symm | (rw [h0];rfl)),AA [] [] [] rfl ⟨⟨rfl,rfl⟩,MC,rfl,qH (fun n:Nat=>i64 n) hm.symm,rfl,trivial⟩ (sk) rfl⟩,key.get⟩):p:=h
theorem MBQ(h:p:=by exact⟨rfl,rfl,rfl,MC,qH (fun k:Nat=>AV.sl 5 4 0 k) (Ak rs _).symm,qH (fun k:Nat=>AV.sl 7 1 0 k) (Ak cs card).symm,rfl,trivial⟩):p:=h
theorem MBR(h:p:=by exact⟨by omega,i64 (st.getD m 0),Ff ME,rfl⟩):p:=h
theorem MBS(h:p:=by
 refine⟨MO,[Ac.cells (Ac.mk 5 ((l.map De.cells).length:Nat) AQ)],rfl,?_⟩
 refine⟨by show 0+1<=1;decide,[Ac.cells (Ac.mk 2 ((l.map De.cells).length:Nat) AQ)],rfl,by show(1+1) * 32<=140737488355328;decide,[Ac.cells (Ac.mk 2 ((l.map De.cells).length:Nat) AQ),Ac.cells (Ac.mk 5 ((l.map De.cells).length:Nat) AQ)],rfl,?_⟩
 refine And.intro (fun _=>?_) (fun h=>absurd II h)
 refine And.intro (fun h=>absurd (show(2:Int)=3 from h) ML) (fun _=>?_)
 refine And.intro (fun h=>absurd (show(2:Int)=4 from h) ML) (fun _=>?_)
 exact MAB):p:=h
theorem MBT(h:p:=by
 refine Tv.holds.BB [] [] rfl (sk) (sk) fun e0 H0 hq=>?_
 obtain⟨rfl,rfl⟩:=hq
 refine MS ?_
 exact MAm):p:=h
theorem MBU(h:p:=by
 refine⟨_,⟨by omega,_,rfl,rfl⟩,?_⟩
 refine hA.holds.BB [] [] rfl (sk) ⟨_,_,rfl,MC,Dc _ _ _ Et⟩ fun e0 H0 hq=>?_
 obtain⟨rfl,rfl⟩:=hq
 refine⟨rfl,_,⟨1,[(0,RY vals)]⟩,rfl,rfl,?_⟩
 refine⟨_,⟨by omega,_,rfl,rfl⟩,?_⟩
 refine hB.holds.BB [] [] rfl (sk) ⟨_,_,rfl,MC,Dc _ _ _ aBU⟩ fun e0 H0 hq=>?_
 obtain⟨rfl,rfl⟩:=hq
 refine⟨rfl,_,⟨1,[(0,RY vals)]⟩,rfl,rfl,?_⟩
 exact⟨[],[],[], .returned (.p (.bool q)),⟨1,[(0,RY vals)]⟩,rfl,sk,sk,rfl,rfl⟩):p:=h
theorem MBV(h:p:=by simp):p:=h
theorem MBW(h:p:=by exact⟨rfl,rfl⟩):p:=h
theorem MBX(h:p:=by
 have r4:r=Bu:=aCf (by first | exact r4 | (injection r4))
 refine And.intro (fun r5=>?_) (fun r5=>?_)
 rotate_left
 ·have r5:¬ ((st.map i64).length:Int)=0:=r5
  have r5:¬ st=[]:=fun e=>r5 (by rw [e];rfl)
  exact Mt
 have r5:((st.map i64).length:Int)=0:=r5
 have r5:st=[]:=by rw [qB] at r5;exact qf.1 ME
 have hy:=FY (by simp [Ay,Az,Bo, *])
 refine⟨(m:Int),by rw [show((m+1:Nat):Int) - 1=(m:Int) by omega];exact wrap_i64 (by omega) ME,?_⟩
 refine⟨Nat × Nat,fun x=>[(1, .p (i64 x.2)),(2, .p (i64 p)),(3, .ptr 0 0 0),(7, .p (i64 2)),(8, .p (i64 x.1))],fun x=>⟨1,[(0,cO [.p (i64 op), .p (i64 n), .p (i64 rel), .p (i64 val), .p (.str r.name), .p (i64 r.mode), .p (.str r.Ae), .p (i64 r.n), .p (ints st), .p (cds ar)])]⟩,fun x=>x.1<=ar.length/\x.2<=1000/\(ar.drop x.1).foldlM (fun l c=>BQ d c l) x.2=R,fun x=>ar.length - x.1,?_,?_⟩
 ·exact⟨(0,m),⟨qL _,by simp only [];omega,hy⟩,AA [] [] [] rfl (sk) (sk) rfl⟩
 rintro⟨i,l⟩ ⟨i1,i2,i3⟩
 simp only [] at i1 i2 i3
 refine qA (fun j1=>?_) (fun j1=>?_)
 rotate_left
 ·have j1:¬ (i:Int)<2:=j1
  rw [qb ME,ko] at i3
  exact AL _ rfl rfl (Bf (by rw [<- i3];rfl))
 have j1:(i:Int)<2:=j1
 have hi:i<ar.length:=by omega
 rw [EO Fy hi,kM] at i3
 have Jn:=El hb4 (Aa Fy hi)
 have AO:=Gu hi
 rcases hx:ar.getD i Fy with ⟨o',n',Iz,I1,I4,st',I5⟩
 rw [hx] at i3 Jn AO
 refine⟨_,⟨by omega,(Cd.mk o' n' Iz I1 I4 st' I5).cells,AO,rfl⟩,?_⟩
 refine⟨((p+1:Nat):Int),wrap_i64 (by omega) ME,?_⟩
 have DT:=ih (.mk o' n' Iz I1 I4 st' I5) l (p+1) Jn (by omega) ME
 rcases hv:BQ d (.mk o' n' Iz I1 I4 st' I5) l with _ | l2
 ·rw [hv] at DT i3
  refine DT.eq rfl ?_
  refine And.intro (fun _=>?_) (fun h=>absurd (show(-1:Int)<0 from ML) h)
  exact AL _ rfl rfl (Bf (by rw [<- i3];rfl))
 ·have hle:=FT _ _ _ _ hv
  rw [hv] at DT i3
  refine DT.eq rfl ?_
  refine And.intro (fun h=>absurd (show(l2:Int)<0 from h) ME) (fun _=>?_)
  refine MAs ?_
  exact⟨(i+1,l2),⟨by simp only [];omega,by simp only [];omega,i3⟩,AA [] [] [] rfl (sk) (sk) rfl,by show ar.length - (i+1)<ar.length - i;omega⟩):p:=h
theorem MBY(h:p:=by
 have m1:(k:Int)<((AJ.map Rf.cells).length:Nat):=m1
 rw [qB] at m1
 have hk:k<AJ.length:=by omega
 have AO:=G7 hk
 have Ch:(r∈AJ.take (k+1)) ↔ (r∈AJ.take k∨r=AJ.getD k Bu):=by rw [AU Bu hk,qa,qP]
 generalize AJ.getD k Bu=x at AO Ch
 cases b
 ·refine AR wy MK ?_
  refine⟨_,Ma,?_⟩
  refine⟨⟨by kernel_rfl,MK⟩,fun e1=>?_,fun e1=>?_⟩
  ·have e1:x=r:=Ju (by first | exact e1 | (injection e1))
   refine MAs ?_
   exact MAd
  ·have e1:¬ x=r:=fun e=>e1 (by rw [e])
   have Bt:¬ r∈AJ.take k:=kP k2.symm
   refine MAs ?_
   exact MAS
 ·have FY:r∈AJ.take k:=kK k2.symm
  refine AR wy MK ?_
  refine MAs ?_
  exact MAh):p:=h
theorem MBZ(h:p:=by
 have hM2:=Jo p hp.big
 rw [L6,qM h0] at hM2
 have hf:=EY h0
 have hI:=dY (Ap p) (Ho (AY p p) 0) hf.aFa hf.IC hf.aLe (by rw [hf.Xw];exact hf.net)
 have hz:=hf.grz
 have Vo:=fun i (hi:i<(Ap p).names.length)=>hf.find hi
 have bG:(Ap p).names.length=(Ap p).nodes.length:=(qB ..).trans (qB ..).symm
 have h8:(Ap p).names.length<=8:=by rw [show(Ap p).names.length=(AY p p).length from qB ..];exact hf.eight.2
 generalize Ap p=g at hM2 hI hz Vo bG h8
 clear hf h0
 obtain⟨g1,g2,g3,g4,g5⟩:=g
 refine hM2.eq rfl ?_
 refine MJ ?_
 refine hI.eq rfl ?_
 refine MJ ?_
 refine And.intro (fun _=>?_) (fun h=>absurd (show(((g1.map PV.str).length:Nat):Int)=((g3.map Nd.cells).length:Nat) by rw [qB,qB];exact qH _ bG) h)
 refine⟨Nat,fun k=>[(11, .ptr 0 0 0),(84, .p (.Dh (g1.map PV.str))),(85, .p (i64 (g1.length:Nat))),(86, .p (i64 (k:Nat)))],fun _=>⟨1,[(0,grO ⟨g1,g2,g3,g4,g5⟩)]⟩,fun k=>k<=g1.length,fun k=>g1.length - k,?_,?_⟩
 ·exact⟨0,qL _,AA [] [(0,5)] [] rfl ⟨MC,rfl,qH (fun z:Nat=>i64 z) (qB ..).symm,rfl,trivial⟩ (sk) rfl⟩
 intro k hk
 have h8:g1.length<=8:=h8
 refine qA (fun h1=>?_) (fun h1=>?_)
 rotate_left
 ·exact MAl
 have h1:(k:Int)<(g1.length:Nat):=h1
 have J2:k<g1.length:=by omega
 refine⟨_,⟨by omega, .str (g1.getD k []),Xx J2,rfl⟩,?_⟩
 have hF:=aFb ⟨g1,g2,g3,g4,g5⟩ (g1.getD k []) (by show g1.length<=_;omega)
 have hV:Xy g1 (g1.getD k [])=[i64 (k:Nat),i64 0]:=by rw [Xy,Vo k J2]
 rw [show(Gr.mk g1 g2 g3 g4 g5).names=g1 from rfl,hV] at hF
 generalize g1.getD k []=nm at hF ⊢
 refine hF.eq rfl ?_
 refine MJ ?_
 refine MJ ?_
 refine MAs ?_
 exact⟨k+1,by show k+1<=g1.length;omega,AA [] [] [] rfl (sk) (sk) rfl,by show g1.length - (k+1)<g1.length - k;omega⟩):p:=h
theorem MBa(h:p:=by
 refine⟨((Ao [] (ds.take k)+1:Nat):Int),MAz,?_⟩
 refine⟨Nat × Nat,fun y=>[(1, .ptr 0 0 0),(3, .p (i64 (Ao [] (ds.take k)+1:Nat))),(4, .p (i64 (Bn (ds.take k):Nat))),(5, .p (i64 (y.2:Nat))),(6, .p (i64 k)),(7, .ptr 1 0 0),(8, .p (i64 (1:Nat))),(9, .p (i64 y.1))],fun _=>⟨2,[(1,Bl ⟨dk,dn,AQ,Ab,AJ,AZ⟩),(0,scO ds)]⟩,fun y=>y.1<=1/\WI y.2 (BG [] (ds.take k) * dn.toNat ^ y.1),fun y=>1 - y.1,?_,?_⟩
 ·exact⟨(0,W),⟨qL _,by show WI W (_ * _ ^ 0);rw [vT,jX];exact k3⟩,AA [] [] [] rfl (sk) (sk) rfl⟩
 rintro⟨j,V⟩ ⟨j1,j2⟩
 simp only [] at j1 j2
 have hV4:=j2.hi
 refine qA (fun n1=>?_) (fun n1=>?_)
 rotate_left
 ·have n1:¬ (j:Int)<(1:Nat):=n1
  have nE:j=1:=by omega
  have hV:WI V (BG [] (ds.take (k+1))):=by rw [sW,<- nE];exact j2
  refine MAs ?_
  exact MAw
 have n1:(j:Int)<(1:Nat):=n1
 have hd:=hq ME
 refine qA (fun n2=>?_) (fun n2=>?_)
 ·have n2:((V:Nat):Int)<=1024:=n2
  have hVe:=j2.eq ME
  have hmul:((V:Nat):Int) * dn=((V * dn.toNat:Nat):Int):=by rw [xS,show((dn.toNat:Nat):Int)=dn by omega]
  have hle:V * dn.toNat<=1024 * 4:=jS (by omega) ME
  refine⟨((V * dn.toNat:Nat):Int),by rw [<- hmul];exact wrap_i64 (by omega) ME,?_⟩
  refine MAs ?_
  exact⟨(j+1,V * dn.toNat),⟨by show j+1<=1;omega,by show WI (V * dn.toNat) (_ * dn.toNat ^ (j+1));rw [jb,<- vH,<- hVe];exact⟨fun _=>rfl,fun h=>h,hle⟩⟩,AA [] [] [] rfl (sk) (sk) rfl,by show 1 - (j+1)<1 - j;omega⟩
 ·have n2:¬ ((V:Nat):Int)<=1024:=n2
  have hVb:=j2.big ME
  have hV:WI V (BG [] (ds.take (k+1))):=by
   refine⟨fun h=>by omega,fun _=>?_,hV4⟩
   rw [sW]
   exact xQ hVb (xq _ (kY ME j1))
  refine MAs ?_
  exact MAw):p:=h
theorem MBb(h:p:=by exact⟨[],[],[], .returned (vB false),⟨1,[]⟩,rfl,sk,trivial,by rw [Bt (by simp [Ay,Az,Av, *])];exact MC⟩):p:=h
theorem MBc(h:p:=by omega):p:=h
theorem MBd(h:p:=by
 have m1:¬ (k:Int)<((AJ.map Rf.cells).length:Nat):=m1
 rw [qB] at m1
 rw [Ar ME] at k2
 cases b
 ·have Bt:¬ r∈AJ:=kP k2.symm
  rw [qM Bt] at hR
  exact Mx
 have Dy:r∈AJ:=kK k2.symm
 rw [qG (fun h=>h Dy)] at hR
 refine qA (fun md=>?_) (fun md=>?_)
 ·have md:r.mode=3:=md
  refine qA (fun o6=>?_) (fun o6=>?_)
  rotate_left
  ·have o6:¬ op=6:=o6
   rw [qM ⟨md,o6⟩] at hR
   exact Mx
  have o6:op=6:=o6
  rw [qG (fun h=>h.2 o6)] at hR
  refine qA (fun o5=>?_) (fun o5=>?_)
  ·have o5:op=5:=o5
   obtain⟨m,hm⟩:∃ m:Nat,st.length=m+1:=MAc
   have V7:((st.map i64).length:Int) - 1=(m:Nat):=MAI
   have bM:st.length - 1=m:=by omega
   refine MA8 ?_
   refine⟨_,MBR,?_⟩
   exact Mj
  exact MP
 have md:¬ r.mode=3:=md
 rw [qG (fun h=>md h.1)] at hR
 refine qA (fun o5=>?_) (fun o5=>?_)
 ·have o5:op=5:=o5
  obtain⟨m,hm⟩:∃ m:Nat,st.length=m+1:=MAc
  have V7:((st.map i64).length:Int) - 1=(m:Nat):=MAI
  have bM:st.length - 1=m:=by omega
  refine MA8 ?_
  refine⟨_,MBR,?_⟩
  exact Mj
 exact MP):p:=h
theorem MBe(h:p:=by
 refine ic (pargs:=[.agg (ch).cells, .Ai 3 ((l).map Kn.cells), .bool false,i64 sz]) (Qt ch (l) (k3).ok (by have:=(k3).len;omega) false sz hs).holds [4] rfl MAW fun e0 H0 hq=>?_
 obtain⟨rs,cs,rfl,rfl,XD⟩:=hq
 refine⟨rfl,⟨Nk _,Qs _,trivial⟩,_,⟨7,(5,Z5 rs)::(6,iO cs)::[(4,kwO l),(3,rF (.sl 2 6 0 (2+i))),(2,dyO Y),(1,rF (.p .Ad)),(0,dpO ⟨gr,pt,ns,ch,gs,true⟩)]⟩,rfl,rfl,?_⟩
 refine⟨MO,_,rfl, .inl ⟨[5],[[i64 4,i64 2, .str [101], .str [],FX rs, .Ad]],rfl,⟨_,_,rfl,⟨_,_,rfl,rfl,_,_,rfl,rfl,_,_,rfl,rfl,_,_,rfl,rfl,_,_,rfl,⟨_,rfl,by show 0+rs.length<=(rs.map Rf.cells).length;simp,AB MBV⟩,_,_,rfl,(by first | exact rfl | exact .inl rfl),rfl⟩,rfl⟩,?_⟩⟩
 refine⟨by show 0+(2+i)<=Y.length;omega,Y,AB ME,by show(2+i+1) * 96<=140737488355328;omega,Y++[[i64 4,i64 2, .str [101], .str [],FX rs, .Ad]],rfl,?_⟩
 refine⟨MO,[((Kn.mk [101] 2 false)).cells],rfl,?_⟩
 exact MAt):p:=h
theorem MBf(h:p:=by
 exact⟨⟨_,rfl,rfl,rfl,rfl⟩,⟨_,rfl,rfl,rfl,_,rfl,(sk)⟩,⟨_,rfl,rfl,rfl,rfl,rfl,rfl⟩,MAv,⟨_,rfl,rfl,rfl,_,rfl,_,_,rfl,MC,rfl⟩,⟨_,rfl,rfl,rfl,_,rfl,_,_,rfl,⟨rfl,_,_,rfl,rfl,rfl⟩,rfl⟩,
 ⟨_,rfl,rfl,rfl,rfl,rfl,rfl⟩,MAv,⟨_,rfl,rfl,rfl,_,rfl,_,_,rfl,MC,rfl⟩,⟨_,rfl,rfl,rfl,_,rfl,JZ (Dc _ _ _ b.pre) ⟨_,_,rfl,rfl,rfl⟩⟩,
 ⟨_,rfl,rfl,rfl,rfl⟩,⟨_,rfl,rfl,rfl,rfl⟩,⟨_,rfl,rfl,rfl,_,rfl,_,_,rfl,rfl,_,_,rfl,rfl,_,_,rfl,rfl,_,_,rfl,rfl,_,_,rfl,rfl,rfl⟩,⟨_,rfl,rfl,rfl,rfl⟩,⟨_,rfl,rfl,rfl,rfl⟩,⟨_,rfl,rfl,rfl,rfl⟩,⟨_,rfl,rfl,rfl,_,rfl,_,_,rfl,rfl,_,_,rfl,rfl,_,_,rfl,rfl,_,_,rfl,⟨rfl,rfl⟩,_,_,rfl,⟨rfl,rfl⟩,_,_,rfl,⟨rfl,rfl⟩,rfl⟩,⟨_,rfl,rfl,rfl,_,rfl,Dc _ _ _ [.Ad,i64 0, .Ad, .int .u64 0, .Ad]⟩,trivial⟩):p:=h
theorem MBg(h:p:=by
 rw [Jt] at hr j2
 rw [qM rfl,qU] at j2
 refine hr.eq rfl ?_
 refine MAs ?_
 exact⟨(j+1,Ex),⟨by show j+1<=AZ.length;omega,j2⟩,AA [] [(1,2)] [] rfl (sk) (sk) rfl,by show AZ.length - (j+1)<AZ.length - j;omega⟩):p:=h
theorem MBh(h:p:=by first | omega | (simp only [qD,qR,qy];omega)):p:=h
theorem MBj(h:p:=by
 refine⟨MO,[[.str nm,i64 3, .str [],i64 0]],rfl,?_⟩
 refine⟨by show 0+rs.length<=(rs.map Rf.cells).length;simp,rs.map Rf.cells,AB MBV,by show(rs.length+1) * 48<=140737488355328;omega,(rs++[Rf.mk nm 3 [] 0]).map Rf.cells,by simp,?_⟩
 refine⟨_,MAa,?_⟩
 refine⟨MO,[i64 card],rfl,?_⟩
 refine MAK ?_
 refine⟨((i+1:Nat):Int),MAz,?_⟩
 exact⟨(i+1,rs++[Rf.mk nm 3 [] 0],cs++[card]),⟨by show i+1<=l.length;omega,k2.snoc (aPX hS.ok hS.len) hS.card h2⟩,AA [] [(1,5),(2,7)] [] rfl MBQ (sk) rfl,by show l.length - (i+1)<l.length - i;omega⟩):p:=h
theorem MBk(h:p:=by
 rw [qQ] at Jt
 rw [Jt] at hr j2
 rw [qG ML,<- hm] at j2
 refine hr.eq rfl ?_
 refine⟨MO,[Ac.cells (Ac.mk 9 ((l.map De.cells).length:Nat) [])],rfl,?_⟩
 refine MAJ ?_
 refine MAs ?_
 exact MBG):p:=h
theorem MBl(h:p:=by
 refine qA (fun o5=>?_) (fun o5=>?_)
 ·have o5:op=5:=o5
  obtain⟨m,hm⟩:∃ m:Nat,st.length=m+1:=MAc
  have V7:((st.map i64).length:Int) - 1=(m:Nat):=MAI
  have bM:st.length - 1=m:=by omega
  refine MA8 ?_
  refine⟨_,MBR,?_⟩
  have hg:FQ op n val st=st.getD m 0:=by rw [FQ,qM o5,bM]
  refine Tv.holds.BB [] [] rfl (sk) (sk) fun e0 H0 hq=>?_
  obtain⟨rfl,rfl⟩:=hq
  refine MS ?_
  refine qA (fun w1=>?_) (fun w1=>?_)
  ·have w1:kk<=st.getD m 0:=w1
   exact MAi
  ·have w1:¬ kk<=st.getD m 0:=w1
   exact MAj
 exact MBN):p:=h
theorem MBm(h:p:=by
 have p0:Ab=[]:=p0
 obtain⟨es',U6⟩:∃ es',es'=Ed es AQ (i64 1):=MX
 rw [<- U6]
 have aB:=hAdd p0 es' U6
 have aC:BR es' AQ=some (i64 (N:Nat)):=by rw [U6,DC,qM rfl,dQ p0];rfl
 refine AR aC9 MK ?_
 refine⟨_, .inl ⟨_,aC,rfl⟩,?_⟩
 refine⟨Nat × List (List PV) × List (List UInt8),fun x=>[(3, .ptr 0 0 0),(4, .p (i64 k)),(5, .ptr 6 0 0),(18, .p (Dw ds)),(19, .p (i64 ds.length)),(20, .p (i64 k)),(79, .p (i64 (N:Nat))),(80, .p (i64 x.1))],fun x=>⟨7,(6,Bl ⟨dk,dn,AQ,Ab,AJ,AZ⟩)::nbL ds x.2.1 x.2.2 (Ed eb AQ (i64 X.length)) es'⟩,
  fun x=>x.1<=N/\Ii ds x.2.1 (AY ds (ds.take k)++B.take x.1)/\x.2.2=(AY ds (ds.take k)++B.take x.1).map Mb.name,fun x=>N - x.1,?_,?_⟩
 ·exact MAU
 rintro⟨j,X1,Ky⟩ ⟨j1,j2,j3⟩
 simp only [] at j1 j2 j3
 have hXl:X1.length<=8:=by
  rw [j2.len,qD,qj];omega
 have BF:Ky.length<=8:=by
  rw [j3,qB,qD,qj];omega
 refine qA (fun m3=>?_) (fun m3=>?_)
 rotate_left
 ·have m3:¬ (j:Int)<(N:Nat):=m3
  rw [show B.take j=B from kX ME] at j2 j3
  refine MAs ?_
  exact Mv
 have m3:(j:Int)<(N:Nat):=m3
 have hjl:j<N:=by omega
 have uC:B.take (j+1)=B.take j++[B.getD j FO]:=AU FO ME
 have dS:=aIR j hjl
 rw [qM p0] at dS
 have hMs:Ii ds (X1++[[i64 (k:Nat),i64 (j:Nat)]]) (AY ds (ds.take k)++B.take (j+1)):=by
  rw [uC,<- qO]
  exact j2.snoc hk (by rw [dS];exact SL.symm) (by rw [dS])
 have hNm:Ky++[AQ]=(AY ds (ds.take k)++B.take (j+1)).map Mb.name:=by
  rw [uC,<- qO,qX,<- j3,dS];rfl
 refine And.intro (fun _=>?_) (fun q=>absurd p0 q)
 refine⟨MO,[[i64 (k:Nat),i64 (j:Nat)]],rfl,?_⟩
 refine⟨by show 0+X1.length<=X1.length;omega,X1,AB rfl,by show(X1.length+1) * 16<=140737488355328;omega,X1++[[i64 (k:Nat),i64 (j:Nat)]],rfl,?_⟩
 refine⟨MO,[.str (AQ)],rfl,?_⟩
 refine⟨by show 0+Ky.length<=(Ky.map PV.str).length;simp,Ky.map PV.str,AB MBV,by show(Ky.length+1) * 16<=140737488355328;omega,(Ky++[AQ]).map PV.str,by rw [qX];rfl,?_⟩
 refine MAs ?_
 refine⟨(j+1,X1++[[i64 (k:Nat),i64 (j:Nat)]],Ky++[AQ]),⟨by show j+1<=N;omega,hMs,hNm⟩,AA [] [(4,8),(5,10)] [] rfl (sk) ?_ rfl,by show N - (j+1)<N - j;omega⟩
 exact⟨⟨_,rfl,rfl,rfl,sk⟩,⟨_,rfl,rfl,rfl,rfl⟩,⟨_,rfl,rfl,rfl,rfl⟩,⟨_,rfl,rfl,rfl,rfl⟩,⟨_,rfl,rfl,rfl,rfl⟩,MAv,⟨_,rfl,rfl,rfl,_,rfl,_,_,rfl,rfl,_,_,rfl,qH (fun j:Nat=>AV.sl 8 2 0 j) (Ak X1 _).symm,_,_,rfl,qH (fun j:Nat=>AV.sl 10 1 0 j) (Ak Ky _).symm,_,_,rfl,⟨rfl,rfl⟩,_,_,rfl,MBW,_,_,rfl,MC,rfl⟩,trivial⟩):p:=h
theorem MBn(h:p:=by
 rintro⟨j,X1,Ky⟩ ⟨j1,j2,j3⟩
 simp only [] at j1 j2 j3
 have hXl:X1.length<=8:=by
  rw [j2.len,qD,qj];omega
 have BF:Ky.length<=8:=by
  rw [j3,qB,qD,qj];omega
 refine qA (fun m3=>?_) (fun m3=>?_)
 rotate_left
 ·have m3:¬ (j:Int)<(N:Nat):=m3
  rw [show B.take j=B from kX ME] at j2 j3
  refine MAs ?_
  exact Mv
 have m3:(j:Int)<(N:Nat):=m3
 have hjl:j<N:=by omega
 have uC:B.take (j+1)=B.take j++[B.getD j FO]:=AU FO ME
 have dS:=aIR j hjl
 rw [qG p0] at dS
 have hMs:Ii ds (X1++[[i64 (k:Nat),i64 (j:Nat)]]) (AY ds (ds.take k)++B.take (j+1)):=by
  rw [uC,<- qO]
  exact j2.snoc hk (by rw [dS];exact SL.symm) (by rw [dS])
 have hNm:Ky++[Sb ⟨dk,dn,AQ,Ab,AJ,AZ⟩ j]=(AY ds (ds.take k)++B.take (j+1)).map Mb.name:=by
  rw [uC,<- qO,qX,<- j3,dS];rfl
 have hI:=aDA (j:Nat) MBc ME
 rw [yR ME] at hI
 refine And.intro (fun q=>absurd q p0) (fun _=>?_)
 refine hI.eq rfl ?_
 have aPr:AQ.length<=10:=aPq
 refine⟨by show 1+(L9 j).length<=9223372036854775807;show 1+1<=_;omega,?_⟩
 refine⟨by show([91]++L9 j).length+1<=9223372036854775807;show 2+1<=_;omega,?_⟩
 refine⟨by show AQ.length+([91]++L9 j++[93]).length<=9223372036854775807;show AQ.length+3<=_;omega,?_⟩
 have rE:=yQ ⟨dk,dn,AQ,Ab,AJ,AZ⟩ j
 rw [<- rE] at hNm
 refine⟨MO,[[i64 (k:Nat),i64 (j:Nat)]],rfl,?_⟩
 refine⟨by show 0+X1.length<=X1.length;omega,X1,AB rfl,by show(X1.length+1) * 16<=140737488355328;omega,X1++[[i64 (k:Nat),i64 (j:Nat)]],rfl,?_⟩
 refine⟨MO,[.str (AQ++(([91]++L9 j)++[93]))],rfl,?_⟩
 refine⟨by show 0+Ky.length<=(Ky.map PV.str).length;simp,Ky.map PV.str,AB MBV,by show(Ky.length+1) * 16<=140737488355328;omega,(Ky++[AQ++(([91]++L9 j)++[93])]).map PV.str,by rw [qX];rfl,?_⟩
 refine MAs ?_
 refine⟨(j+1,X1++[[i64 (k:Nat),i64 (j:Nat)]],Ky++[AQ++(([91]++L9 j)++[93])]),⟨by show j+1<=N;omega,hMs,hNm⟩,AA [] [(4,8),(5,10)] [] rfl (sk) ?_ rfl,by show N - (j+1)<N - j;omega⟩
 exact⟨⟨_,rfl,rfl,rfl,sk⟩,⟨_,rfl,rfl,rfl,rfl⟩,⟨_,rfl,rfl,rfl,rfl⟩,⟨_,rfl,rfl,rfl,rfl⟩,⟨_,rfl,rfl,rfl,rfl⟩,MAv,⟨_,rfl,rfl,rfl,_,rfl,_,_,rfl,rfl,_,_,rfl,qH (fun j:Nat=>AV.sl 8 2 0 j) (Ak X1 _).symm,_,_,rfl,qH (fun j:Nat=>AV.sl 10 1 0 j) (Ak Ky _).symm,_,_,rfl,⟨rfl,rfl⟩,_,_,rfl,MBW,_,_,rfl,MC,rfl⟩,trivial⟩):p:=h
theorem MBo(h:p:=by exact⟨_,rfl,rfl,rfl,_,rfl,sk⟩):p:=h
theorem MBq(h:p:=by
 have hW2:=(w2 1 hq).trans (qH (fun z:Nat=>(z:Int)) sW.symm)
 refine⟨((Ao [] (ds.take k)+1:Nat):Int),MAz,?_⟩
 refine qA (fun g8=>?_) (fun g8=>?_)
 ·have g8:(8:Int)<((Ao [] (ds.take k)+1:Nat):Int):=g8
  exact M4
 have g8:¬ (8:Int)<((Ao [] (ds.take k)+1:Nat):Int):=g8
 have hbd:=Za (q:=dn) hWl (show Ao [] (ds.take k)+1<=8 by omega) hq
 refine⟨Nat,fun j=>[(0, .ptr 0 0 0),(3, .p (i64 (Ao [] (ds.take k)+1:Nat))),(4, .p (i64 (Bn (ds.take k):Nat))),(5, .p (i64 ((BG [] (ds.take k):Nat) * dn ^ j))),(7, .ptr 3 0 0),(13, .p (Dw ds)),(14, .p (i64 ds.length)),(15, .p (i64 k)),(41, .p (i64 (1:Nat))),(42, .p (i64 j))],fun _=>⟨4,[(3,Bl ⟨dk,dn,AQ,Ab,AJ,AZ⟩),(2,Bz l),(1,EX (EA ds)),(0,Ej ds (b:Nat) 2 l.length)]⟩,fun j=>j<=1,fun j=>1 - j,?_,?_⟩
 ·exact MBO
 intro j hj
 refine qA (fun j1=>?_) (fun j1=>?_)
 ·have j1:(j:Int)<(1:Nat):=j1
  have Vw:=hbd (j+1) ME
  refine⟨(BG [] (ds.take k):Nat) * dn ^ (j+1),by rw [vV,<- vJ] at Vw ⊢;exact wrap_i64 MBc ME,?_⟩
  refine MAs ?_
  exact⟨j+1,by omega,AA [] [] [] rfl (sk) (sk) rfl,by show 1 - (j+1)<1 - j;omega⟩
 have j1:¬ (j:Int)<(1:Nat):=j1
 have nE:j=1:=by omega
 subst nE
 refine MAs ?_
 exact MBD):p:=h
theorem MBr(h:p:=by
 rintro⟨j,V⟩ ⟨j1,j2⟩
 simp only [] at j1 j2
 have hV4:=j2.hi
 refine qA (fun n1=>?_) (fun n1=>?_)
 rotate_left
 ·have n1:¬ (j:Int)<(0:Nat):=n1
  have nE:j=0:=by omega
  have hV:WI V (BG [] (ds.take (k+1))):=by rw [sW,<- nE];exact j2
  refine MAs ?_
  exact MAw
 have n1:(j:Int)<(0:Nat):=n1
 have hd:=hq ME
 refine qA (fun n2=>?_) (fun n2=>?_)
 ·have n2:((V:Nat):Int)<=1024:=n2
  have hVe:=j2.eq ME
  have hmul:((V:Nat):Int) * dn=((V * dn.toNat:Nat):Int):=by rw [xS,show((dn.toNat:Nat):Int)=dn by omega]
  have hle:V * dn.toNat<=1024 * 4:=jS MBc ME
  refine⟨((V * dn.toNat:Nat):Int),by rw [<- hmul];exact wrap_i64 MBc ME,?_⟩
  refine MAs ?_
  exact⟨(j+1,V * dn.toNat),⟨by show j+1<=0;omega,by show WI (V * dn.toNat) (_ * dn.toNat ^ (j+1));rw [jb,<- vH,<- hVe];exact⟨fun _=>rfl,fun h=>h,hle⟩⟩,AA [] [] [] rfl (sk) (sk) rfl,by show 0 - (j+1)<0 - j;omega⟩
 ·have n2:¬ ((V:Nat):Int)<=1024:=n2
  have hVb:=j2.big ME
  have hV:WI V (BG [] (ds.take (k+1))):=by
   refine⟨fun h=>by omega,fun _=>?_,hV4⟩
   rw [sW]
   exact xQ hVb (xq _ (kY ME j1))
  refine MAs ?_
  exact MAw):p:=h
theorem MBs(h:p:=by
 by_cases hk:ar.length=2
 rotate_left
 ·refine And.intro (fun h=>absurd (show((ar.map Cd.cells).length:Int)=2 from h) MAI) (fun _=>?_)
  exact AL _ rfl rfl (Bf (by rw [Bt (by simp [Ay,Az, *])];rfl))
 refine And.intro (fun _=>?_) (fun h=>absurd (show((ar.map Cd.cells).length:Int)=2 from MAI) h)
 refine And.intro (fun h=>absurd (show(2:Int)=0 from h) ML) (fun _=>?_)
 refine And.intro (fun r1=>?_) (fun r1=>?_)
 rotate_left
 ·have r1:¬ n=0:=r1
  exact Mt
 have r1:n=0:=r1
 refine And.intro (fun r2=>?_) (fun r2=>?_)
 rotate_left
 ·have r2:¬ rel=0:=r2
  exact Mt
 have r2:rel=0:=r2
 refine And.intro (fun r3=>?_) (fun r3=>?_)
 rotate_left
 ·have r3:¬ val=0:=r3
  exact Mt
 have r3:val=0:=r3
 refine⟨⟨by kernel_rfl,MK⟩,fun r4=>?_,fun r4=>?_⟩
 rotate_left
 ·have r4:¬ r=Bu:=fun e=>r4 (by rw [e];rfl)
  exact Mt
 exact MBX):p:=h
theorem MBt(h:p:=by exact⟨rfl,rfl⟩):p:=h
theorem MBu(h:p:=by
 refine AR aMI MK ?_
 refine⟨_,rfl,?_⟩
 refine AR aMJ MK ?_
 refine⟨_,rfl,?_⟩
 refine And.intro (fun p0=>?_) (fun p0=>?_)
 ·exact MBm
 ·have p0:¬ Ab=[]:=p0
  obtain⟨es0,aBf⟩:∃ es0,es0=Ed es AQ (i64 1):=MX
  rw [<- aBf]
  obtain⟨ES,hfp⟩:=aPp p0
  have aNk:BR es0 Ab=some (i64 (N:Nat)):=by rw [aBf,DC,qG ES];exact hfp
  refine AR aMK MK ?_
  refine⟨_, .inl ⟨_,aNk,rfl⟩,?_⟩
  refine⟨_,rfl,?_⟩
  obtain⟨es',U6⟩:∃ es',es'=Ed es0 AQ (i64 (N:Nat)):=MX
  rw [<- U6]
  have aB:=aIS p0 es' (by rw [U6,aBf])
  have aC:BR es' AQ=some (i64 (N:Nat)):=by rw [U6,DC,qM rfl]
  refine AR aC9 MK ?_
  refine⟨_, .inl ⟨_,aC,rfl⟩,?_⟩
  refine⟨Nat × List (List PV) × List (List UInt8),fun x=>[(3, .ptr 0 0 0),(4, .p (i64 k)),(5, .ptr 6 0 0),(18, .p (Dw ds)),(19, .p (i64 ds.length)),(20, .p (i64 k)),(79, .p (i64 (N:Nat))),(80, .p (i64 x.1))],fun x=>⟨7,(6,Bl ⟨dk,dn,AQ,Ab,AJ,AZ⟩)::nbL ds x.2.1 x.2.2 (Ed eb AQ (i64 X.length)) es'⟩,
   fun x=>x.1<=N/\Ii ds x.2.1 (AY ds (ds.take k)++B.take x.1)/\x.2.2=(AY ds (ds.take k)++B.take x.1).map Mb.name,fun x=>N - x.1,?_,?_⟩
  ·exact MAU
  exact MBn):p:=h
theorem MBv(h:p:=by exact⟨⟨_,rfl,rfl,rfl,rfl,rfl,rfl⟩,MAv,⟨_,rfl,rfl,rfl,_,rfl,sk⟩,MBo,⟨_,rfl,rfl,rfl,_,rfl,_,_,rfl,A9 _ _,_,_,rfl,A9 _ _,_,_,rfl,A9 _ _,_,_,rfl,A9 _ _,_,_,rfl,A9 _ _,rfl⟩,trivial⟩):p:=h
theorem MBw(h:p:=by exact⟨rfl,_,_,rfl,rfl,rfl⟩):p:=h
theorem MBz(h:p:=by
 refine qA (fun o5=>?_) (fun o5=>?_)
 ·have o5:op=5:=o5
  obtain⟨m,hm⟩:∃ m:Nat,st.length=m+1:=MAc
  have V7:((st.map i64).length:Int) - 1=(m:Nat):=MAI
  have bM:st.length - 1=m:=by omega
  refine MA8 ?_
  refine⟨_,MBR,?_⟩
  refine hK.eq rfl ?_
  refine MJ ?_
  exact Mx
 have o5:¬ op=5:=o5
 refine qA (fun p6=>?_) (fun p6=>?_)
 ·have p6:op=6:=p6
  refine hK.eq rfl ?_
  refine MJ ?_
  exact Mx
 have p6:¬ op=6:=p6
 refine hK.eq rfl ?_
 refine MJ ?_
 exact Mx):p:=h
theorem MB0(h:p:=by
 exact⟨
 ⟨_,rfl,rfl,rfl,rfl⟩,⟨_,rfl,rfl,rfl,rfl⟩,⟨_,rfl,rfl,rfl,_,rfl,_,_,rfl,rfl,_,_,rfl,rfl,_,_,rfl,rfl,_,_,rfl,rfl,_,_,rfl,rfl,rfl⟩,⟨_,rfl,rfl,rfl,rfl⟩,⟨_,rfl,rfl,rfl,rfl⟩,⟨_,rfl,rfl,rfl,rfl⟩,⟨_,rfl,rfl,rfl,_,rfl,_,_,rfl,rfl,_,_,rfl,rfl,_,_,rfl,rfl,_,_,rfl,⟨rfl,rfl⟩,_,_,rfl,⟨rfl,rfl⟩,_,_,rfl,⟨rfl,rfl⟩,rfl⟩,⟨_,rfl,rfl,rfl,_,rfl,Dc _ _ _ [.Ad,i64 0, .Ad, .int .u64 0, .Ad]⟩,trivial⟩):p:=h
theorem MB1(h:p:=by
 refine And.intro (fun _=>?_) (fun h=>absurd hz h)
 refine⟨((i+1:Nat):Int),MAz,?_⟩
 exact⟨(i+1,rs,cs),⟨by show i+1<=l.length;omega,k2⟩,AA [] [] [] rfl (sk) (sk) rfl,by show l.length - (i+1)<l.length - i;omega⟩):p:=h
theorem MB2(h:p:=by
 refine⟨MO,[Ac.cells ⟨1,0,[]⟩],rfl,?_⟩
 refine M3 ?_
 exact⟨Nat × List Ac,fun x=>[(1, .ptr 0 0 0),(3, .sl 1 3 0 x.2.length),(4, .p (i64 (BD ds))),(5, .p (i64 x.1))],raH ds,fun x=>x.1<=ds.length/\x.2=Fe ds++EP (BD ds) [] (ds.take x.1),fun x=>ds.length - x.1,⟨(0,[⟨1,0,[]⟩]),⟨qL _,by show _=Fe ds++[];rw [qU,hh]⟩,AA [] [(1,2)] [] rfl ⟨MC,rfl,qH (fun z:Int=>i64 z) hg,rfl,trivial⟩ (sk) rfl⟩,key.get⟩):p:=h
theorem MB3(h:q)(e:q->p:=by intro z;exact And.intro (fun h=>absurd (show(m.toNat:Int).tmod 8=2 from h) (by rw [e8];omega)) (fun _=>z)):p:=e h
theorem MB4(h:q)(e:q->p:=by intro z;exact And.intro (fun h=>absurd (show(m.toNat:Int).tmod 8=0 from h) (by rw [e8];omega)) (fun _=>z)):p:=e h
theorem MB5(h:p:=by
 by_cases hk:ar.length=0
 rotate_left
 ·refine And.intro (fun h=>absurd (show((ar.map Cd.cells).length:Int)=0 from h) MAI) (fun _=>?_)
  exact⟨[],[],[], .returned (vB false),⟨1,[]⟩,rfl,sk,trivial,by rw [Bt (by simp [Ay,Az, *])];exact MC⟩
 refine And.intro (fun _=>?_) (fun h=>absurd (show((ar.map Cd.cells).length:Int)=0 from MAI) h)
 refine And.intro (fun h=>absurd (show(0:Int)<0 from h) ML) (fun _=>?_)
 exact MB):p:=h
theorem MB6(h:p:=by
 refine⟨MO,[Ac.cells (Ac.mk 1 ((l.map De.cells).length:Nat) [])],rfl,?_⟩
 refine M3 ?_
 exact AL (XQ [Ac.mk 1 ((l.map De.cells).length:Nat) []]) rfl ⟨_,rfl,by show 0+1<=1;decide,rfl⟩ (by rw [hR,hm])):p:=h
theorem MB7(h:p:=by
 refine qA (fun o5=>?_) (fun o5=>?_)
 ·have o5:op=5:=o5
  obtain⟨m,hm⟩:∃ m:Nat,st.length=m+1:=MAc
  have V7:((st.map i64).length:Int) - 1=(m:Nat):=MAI
  have bM:st.length - 1=m:=by omega
  refine MA8 ?_
  refine⟨_,MBR,?_⟩
  refine hK.eq rfl ?_
  exact Mx
 have o5:¬ op=5:=o5
 refine qA (fun p6=>?_) (fun p6=>?_)
 ·have p6:op=6:=p6
  refine hK.eq rfl ?_
  exact Mx
 have p6:¬ op=6:=p6
 refine hK.eq rfl ?_
 exact Mx):p:=h
theorem MB8(h:p:=by
 refine(Ic ds a es (L1) 5 AQ MBh).holds.BB [5] [(2,4)] rfl (sk) MBF fun e0 H0 hq=>?_
 obtain⟨rfl,rfl⟩:=hq
 refine⟨rfl,_,⟨7,(6,Bz ((L1)++[Ac.mk 5 (a:Nat) AQ]))::(1,EX es)::(0,Ej ds (a:Nat) 6 ((L1)++[Ac.mk 5 (a:Nat) AQ]).length)::[(5,dK AQ),(3,Bl ⟨dk,dn,AQ,Ab,AJ,AZ⟩)]⟩,rfl,rfl,?_⟩
 exact⟨[],[(3,6)],[], .returned Bv,VI ds a es (L1++[Ac.mk 5 (a:Nat) AQ]),rfl,sk,sk,rfl,by rw [hR]⟩):p:=h
theorem MB9(h:p:=by
 refine qA (fun h1=>?_) (fun h1=>?_)
 ·have h1:r.mode=0:=h1
  refine qA (fun h2=>?_) (fun h2=>?_)
  ·have h2:r.Ae=[]:=h2
   refine qA (fun h3=>?_) (fun h3=>?_)
   ·have h3:r.n=0:=h3
    exact AL _ rfl rfl (Af (by simp [CU,n1,h1,h2,h3]))
   ·have h3:¬ r.n=0:=h3
    exact AL _ rfl rfl (Af (by simp [CU,n1,h1,h2,h3]))
  ·have h2:¬ r.Ae=[]:=h2
   exact AL _ rfl rfl (Af (by simp [CU,n1,h1,h2]))
 exact Mh):p:=h
theorem MCA(h:p:=by
 refine⟨((q:Nat):Int),U3,?_⟩
 refine⟨by show(0:Int)<=(q:Nat)/\((q:Nat):Int)<=(((ds.take (q+1)).map De.cells).length:Nat);omega,?_⟩
 refine⟨q,⟨by omega,m2⟩,AA [] [] [] rfl (sk) ⟨⟨_,rfl,rfl,rfl,_,rfl,_,_,rfl,?_,rfl⟩,MBo,trivial⟩ rfl,by show q<q+1;omega⟩
 show Dw (ds.take q)=PV.Ai 6 (sub ((ds.take (q+1)).map De.cells) none (some ((q:Nat):Int)))
 rw [aC2,<- jJ,jT,xG ME]):p:=h
theorem MCB(h:p:=by
 refine(Ic ds a es (l) 6 AQ MBh).holds.BB [4] [] rfl (sk) MBF fun e0 H0 hq=>?_
 obtain⟨rfl,rfl⟩:=hq
 refine⟨rfl,_,⟨6,(5,Bz ((l)++[Ac.mk 6 (a:Nat) AQ]))::(1,EX es)::(0,Ej ds (a:Nat) 5 ((l)++[Ac.mk 6 (a:Nat) AQ]).length)::[(4,dK AQ),(3,Bl ⟨dk,dn,AQ,Ab,AJ,AZ⟩)]⟩,rfl,rfl,?_⟩
 exact⟨[],[(3,5)],[], .returned Bv,VI ds a es (l++[Ac.mk 6 (a:Nat) AQ]),rfl,sk,sk,rfl,by rw [hR]⟩):p:=h
theorem MCC(h:p:=by
 refine FI.seq rfl ?_
 refine⟨_, .inr ⟨aL1,rfl⟩,?_⟩
 refine And.intro (fun _=>?_) (fun h=>absurd hb h)
 refine⟨((k+1:Nat):Int),MAz,?_⟩
 exact⟨(k+1,Ex),⟨by show k+1<=ds.length;omega,k4⟩,AA [] [(2,5),(3,3)] [] rfl (sk) ⟨⟨_,rfl,rfl,rfl,sk⟩,MAv,⟨_,rfl,rfl,rfl,qH Cn.ms (nD.symm)⟩,⟨_,rfl,rfl,rfl,sk⟩,trivial⟩ rfl,by show ds.length - (k+1)<ds.length - k;omega⟩):p:=h
theorem MCD(h:p:=by
 intro j hj
 refine qA (fun j1=>?_) (fun j1=>?_)
 ·have j1:(j:Int)<(0:Nat):=j1
  have Vw:=hbd (j+1) ME
  refine⟨(BG [] (ds.take k):Nat) * dn ^ (j+1),by rw [vV,<- vJ] at Vw ⊢;exact wrap_i64 MBc ME,?_⟩
  refine MAs ?_
  exact⟨j+1,by omega,AA [] [] [] rfl (sk) (sk) rfl,by show 0 - (j+1)<0 - j;omega⟩
 have j1:¬ (j:Int)<(0:Nat):=j1
 have nE:j=0:=by omega
 subst nE
 refine MAs ?_
 exact MBD):p:=h
theorem MCE(h:p:=by
 refine FI.seq rfl ?_
 refine⟨_, .inr ⟨fI,rfl⟩,?_⟩
 refine And.intro (fun h=>absurd h hb) (fun _=>?_)
 refine AR aG8 MK ?_
 refine⟨_,rfl,?_⟩
 refine⟨((k+1:Nat):Int),MAz,?_⟩
 exact MAT):p:=h
theorem MCF(h:p:=by
 show List.replicate (n.nodes.map EU.cells).length (u64 0)=_
 rw [qB,FC,kZ,CF,qB]):p:=h
theorem MCG(h:p:=by
 show List.replicate (n.nodes.map EU.cells).length (i64 0)=_
 rw [qB,FC,kZ,BX,qB]):p:=h
theorem MCH(h:q)(e:q->p:=by intro z;exact⟨ML,[],rfl,s3,p.map De.cells,rfl,z⟩):p:=e h
theorem MCI(h:p:=by exact⟨_,Je,IW,hq, .of_steps s0 (.pass (x:=.code y) rfl (fun _ _=>.inl MBV) DY)⟩):p:=h
theorem MCJ(h:p:=by
 have o4:¬ d.kind=4:=o4
 refine qA (fun o5=>?_) (fun o5=>?_)
 ·have o5:d.kind=5:=o5
  refine qA (fun p2=>?_) (fun p2=>?_)
  rotate_left
  ·have p2:¬ d.name=[]:=p2
   exact Mi
  have p2:d.name=[]:=p2
  refine qA (fun p3=>?_) (fun p3=>?_)
  rotate_left
  ·have p3:¬ d.n=0:=p3
   exact Mi
  have p3:d.n=0:=p3
  refine hC.eq rfl ?_
  exact Mi
 have o5:¬ d.kind=5:=o5
 exact Mi):p:=h
theorem MCK(h:p:=by show Dq [];rw [Dq];decide):p:=h
theorem MCL(h:p:=by exact⟨[],[],[], .returned (.p (i64 0)),GQ ds a es l,rfl,sk,sk,Gg hR.symm,rfl⟩):p:=h
theorem MCM(h:p:=by
 refine qA (fun o5=>?_) (fun o5=>?_)
 ·have o5:op=5:=o5
  obtain⟨m,hm⟩:∃ m:Nat,st.length=m+1:=MAc
  have V7:((st.map i64).length:Int) - 1=(m:Nat):=MAI
  have bM:st.length - 1=m:=by omega
  refine MA8 ?_
  refine⟨_,MBR,?_⟩
  exact MBT
 have o5:¬ op=5:=o5
 refine qA (fun p6=>?_) (fun p6=>?_)
 ·have p6:op=6:=p6
  exact MBT
 have p6:¬ op=6:=p6
 exact MBT):p:=h
theorem MCN(h:p:=by
 rename_i t m k x e
 have hx:=Jg (by rw [e];simp)
 obtain⟨w',h1,v,H',BU,k1,rfl,k3⟩:=TY h (Fa m) (Fa k) (Fa x) hv
 show o.uponIn (Fz ro) 0 C.P a next Q ((o.semAt ro a.eval).run C.P w)
 rw [hx]
 have:(execOp a.eval o).run C.P w=.ok .skip w':=by simp [execOp,e,h1]
 rw [this]
 exact hC.k Bv ds H' BU undef a.defers w' k1 (IQ _) (hde (k3.le h)) k3):p:=h
theorem MCO(h:p:=by rw [hc];rfl):p:=h
theorem MCT(h:p:=by exact AL (XQ cu) rfl ⟨_,rfl,by show 0+cu.length<=(cu.map Ac.cells).length;simp,AB MBV⟩ (by rw [j2,k2,qO])):p:=h
theorem MCU(h:p:=by exact⟨_,rfl,rfl,rfl,_,rfl,sk⟩):p:=h
theorem MCV(h:p:=by exact⟨_,rfl,rfl,rfl,rfl,rfl,rfl⟩):p:=h
theorem MCW(h:p:=by exact⟨rfl,rfl⟩):p:=h
theorem MCX(h:p:=by kernel_rfl):p:=h
theorem MCY(h:p:=by
 rw [QS,qM (EY hw0).net] at hK
 refine hN.eq rfl ?_
 refine MJ ?_
 refine hK.eq rfl ?_
 refine MJ ?_
 clear hN hK hw0 hwp hwb
 rcases Rc hp.valid with h0 | h9
 rotate_left
 ·have hM2:=Jo p hp.big
  rw [L6,qG (by rw [h9];decide),h9] at hM2
  refine hM2.eq rfl ?_
  refine MA3 ?_
  refine MJ ?_
  refine MJ ?_
  exact MAl
 exact MBZ):p:=h
theorem MCZ(h:p:=by
 refine qA (fun h1=>?_) (fun h1=>?_)
 ·have h1:(0:Int)<=n:=h1
  refine qA (fun h2=>?_) (fun h2=>?_)
  ·have h2:n<=9999:=h2
   exact AL _ rfl rfl (Af (by simp [DW,h1,h2]))
  ·have h2:¬ n<=9999:=h2
   exact AL _ rfl rfl (Af (by simp [DW,h2]))
 ·have h1:¬ (0:Int)<=n:=h1
  exact AL _ rfl rfl (Af (by simp [DW,h1]))):p:=h
theorem MCa(h:p:=by show 0+rs.length<=(rs.map Rf.cells).length;simp):p:=h
theorem MCb(h:p:=by exact⟨by omega,by omega⟩):p:=h
theorem MCc(h:p:=by exact⟨_,Je,IW,hq, .pass (x:=.inLoop c) rfl (fun _ _=>.inl MBV) DY⟩):p:=h
theorem MCd(h:p:=by exact⟨by omega,(⟨nm,md,pl,rn⟩:Rf).cells,AO,rfl⟩):p:=h
theorem MCe(h:p:=by
 refine⟨MO,[Ac.cells (Ac.mk 5 ((l.map De.cells).length:Nat) AQ)],rfl,?_⟩
 refine M3 ?_
 refine And.intro (fun _=>?_) (fun h=>absurd II h)
 refine And.intro (fun h=>absurd (show(2:Int)=3 from h) ML) (fun _=>?_)
 refine And.intro (fun h=>absurd (show(2:Int)=4 from h) ML) (fun _=>?_)
 exact MAQ):p:=h
theorem MCf(h:p:=by
 exact⟨
 ⟨_,rfl,rfl,rfl,rfl⟩,⟨_,rfl,rfl,rfl,_,rfl,_,_,rfl,rfl,_,_,rfl,rfl,rfl⟩,⟨_,rfl,rfl,rfl,_,rfl,_,_,rfl,rfl,_,_,rfl,A9 _ _,rfl⟩,⟨_,rfl,rfl,rfl,_,rfl,_,_,rfl,A9 _ _,rfl⟩,⟨_,rfl,rfl,rfl,_,rfl,_,_,rfl,rfl,_,_,rfl,rfl,_,_,rfl,rfl,_,_,rfl,rfl,rfl⟩,trivial⟩):p:=h
theorem MCg(h:p:=by exact⟨_,_,rfl,rfl,_,_,rfl,rfl,_,_,rfl,rfl,_,_,rfl,rfl,_,_,rfl, .inr (.inr ⟨4,rfl⟩),_,_,rfl, .inr (.inr ⟨11,rfl⟩),rfl⟩):p:=h
theorem MCj(h:q)(e:q->p:=by intro z;exact⟨rfl,_,⟨11,(4,rD g)::(3,Bl ⟨dk,dn,AQ,Ab,AJ,AZ⟩)::[(10,Bz Ex),(8,⟨304,false, .bx [.fn (.func 219) [] [.ptr 8 0 0, .ptr 6 0 0, .ptr 7 0 0]]⟩),(7,Bl ⟨dk,dn,AQ,Ab,AJ,AZ⟩),(6,cbO),(1,EX es),(0,Ej ds (a:Nat) 10 Ex.length),(9,kcO ⟨.mk xo xn xr xv xf xs xa,xw⟩)]⟩,rfl,rfl,z⟩):p:=e h
theorem MCm(h:p:=by
 rcases h ⟨fun _=>none,Cq.fz⟩ w args' JN.1.aGL (CJ.2 hp) with ⟨h1,h2⟩ | ⟨v',w',h1,h2⟩
 ·exact .inl ⟨h1,h2.mono key⟩
 grind):p:=h
theorem MCn(h:p:=by exact AL _ rfl rfl (Af (by simp [F9,Bo, *]))):p:=h
theorem MCo(h:p:=by
 have e1:¬ x=r:=fun e=>e1 (by rw [e])
 refine MAs ?_
 refine⟨k+1,⟨by omega,fun y hy=>?_⟩,AA [] [] [] rfl ⟨MBt,MBW,MC,rfl,rfl,rfl,rfl,trivial⟩ (sk) rfl,by show AJ.length - (k+1)<AJ.length - k;omega⟩
 rcases Ch y hy with rfl | hy
 ·exact e1
 ·exact k2 y hy):p:=h
theorem MCp(h:p:=by
 rw [hm] at e1
 rw [qE e1] at hR
 refine qA (fun e2=>?_) (fun e2=>?_)
 ·have e2:(Ah.take k).sum=g:=e2
  rw [Ar ME] at e2
  exact AL _ rfl rfl (Af (by rw [hR,qE e2];rfl))
 ·have e2:¬ (Ah.take k).sum=g:=e2
  rw [Ar ME] at e2
  exact AL _ rfl rfl (Af (by rw [hR,qF e2];rfl))):p:=h
theorem MCq(h:q)(e:q->p:=by intro z;exact holdsN_of_vc Tryz.func58 rfl rfl rfl z):p:=e h
theorem MCr(h:q)(e:q->p:=by intro z;exact And.intro (fun q=>absurd (show op=7 from q) ME) (fun _=>z)):p:=e h
theorem MCs(h:p:=by exact Q8 (by rw [hx];simp [execOp,e,h1]) h2):p:=h
theorem MCt(h:p:=by show(0:Int)<=(i:Nat)/\((i:Nat):Int)<=((i+1:Nat):Int)/\((i+1:Nat):Int)<=4;omega):p:=h
theorem MCv(h:p:=by exact⟨_,rfl,rfl,rfl,rfl⟩):p:=h
theorem MCw(h:p:=by show nd.length - (k+1)<nd.length - k;omega):p:=h
theorem MCx(h:p:=by exact⟨_,rfl,rfl,rfl,rfl⟩):p:=h
theorem MCy(h:p:=by exact⟨_,rfl,rfl,rfl,_,rfl,_,_,rfl,MC,rfl⟩):p:=h
theorem MCz(h:p:=by exact Q8 (by rw [hx];simp [execOp,e,resolve,invoke,builtin,h1]) h2):p:=h
theorem MC0(h:p:=by exact⟨e2,rfl⟩):p:=h
theorem MC1(h:p:=by
 simp only [VR,FH] at h ⊢
 obtain⟨q,h1,h2⟩:=h
 exact⟨q,by rw [hn];exact h1,h2⟩):p:=h
theorem MC2(h:p:=by rw [BK,qG (show ¬ (dn<2∨4<dn) by omega)]):p:=h
theorem MC3(h:p:=by
 show PV.agg [i64 op,i64 n,i64 rel,i64 val, .str r.name,i64 r.mode, .str r.Ae,i64 r.n,ints st, .Ai 10 (Db ar)]=_
 rw [EI]):p:=h
theorem MC4(h:p:=by simp [Op.equalIn,run_underlying hu]):p:=h
theorem MC5(h:p:=by show ds.length - (k+1)<ds.length - k;omega):p:=h
theorem MC6(h:p:=by
 refine And.intro (fun h1=>?_) (fun h1=>?_)
 ·refine And.intro (fun h2=>?_) (fun h2=>?_)
  ·exact AL _ rfl rfl (Af (by simp [Gv];omega))
  ·exact AL _ rfl rfl (Af (by simp [Gv];omega))
 ·exact AL _ rfl rfl (Af (by simp [Gv];omega))):p:=h
theorem MC7(h:p:=by rw [e];simp):p:=h
theorem MC8(h:q)(e:q->p:=by intro z;exact⟨((k+1:Nat):Int),MAz,z⟩):p:=e h
theorem MC9(h:p:=by rw [BK,qM (.inr c2),hm]):p:=h
theorem MDA(h:p:=by rw [BK,qM (.inl c1),hm]):p:=h
theorem MDB(h:p:=by
 rintro⟨j,b⟩ ⟨j1,j2⟩
 simp only [] at j1 j2
 cases b
 ·exact MAo
 ·exact MAp):p:=h
theorem MDC(h:p:=by exact⟨(0,W),⟨qL _,by show WI W (_ * _ ^ 0);rw [vT,jX];exact k3⟩,AA [] [] [] rfl (sk) (sk) rfl⟩):p:=h
theorem MDD(h:q)(e:q->p:=by intro z;exact⟨rfl,_,⟨6,(Xi ds ms ns eb es Kw)++[(5,fbO (.p .Ad)),(4,QC (.mk op n rel val ⟨rn,rm,rp,ri⟩ st []))]⟩,rfl,rfl,z⟩):p:=e h
theorem MDE(h:p:=by show l.length - (k+1)<l.length - k;omega):p:=h
theorem MDF(h:p:=by show l.length - (i+1)<l.length - i;omega):p:=h
theorem MDG(h:p:=by
 rcases xB n H.next with h1 | h1
 ·exact h1
 ·rw [hR.fresh n h1] at hq;cases hq):p:=h
theorem MDH(h:p:=by
 cases h
 rcases hl with e | e <;> rcases hs with ⟨e1,e2⟩ | ⟨e1,e2⟩ <;> rw [e,e1]
 ·exact .inl ⟨.inl e,rfl⟩
 ·exact .inl ⟨.inl e,rfl⟩
 ·exact .inl ⟨.inr e2,rfl⟩
 ·exact .inr ⟨by rw [e];simp [e2],rfl⟩):p:=h
theorem MDI(h:q)(e:q->p:=by intro z;exact And.intro (fun h=>absurd (show(3:Int)=2 from h) ML) (fun _=>z)):p:=e h
theorem MDJ(h:p:=by exact⟨MCW,MBt,MBW,MC,rfl,rfl,rfl,rfl,trivial⟩):p:=h
theorem MDL(h:p:=by trivial):p:=h
theorem MDM(h:p:=by exact⟨by omega,(De.mk zk zn znm zpl zrs zcs).cells,hd0,rfl⟩):p:=h
theorem MDN(h:p:=by exact⟨(0,cur),⟨qL _,rfl⟩,AA [] [] [] rfl (sk) (sk) rfl⟩):p:=h
theorem MDO(h:p:=by
 intro Γ w args' m hR hA hM
 obtain⟨h1,h2⟩:=hD _ _ _ _ _ _ _ e1 Γ w args' m hR hA hM
 refine⟨h1,h2.mono ?_⟩
 rintro e' m' w' ⟨e2,u2,H2,YT,⟨rfl,rfl,rfl⟩,k⟩
 exact⟨_,_,_,YT,KP hD hq ds _ _ h,k⟩):p:=h
theorem MDP(h:q)(e:q->p:=by intro z;exact⟨((i+1:Nat):Int),MAz,z⟩):p:=e h
theorem MDQ(h:p:=by exact⟨qL _,by simp⟩):p:=h
theorem MDS(h:p:=by exact⟨by omega,(De.mk tk tn tnm LA trs tcs).cells,hc,rfl⟩):p:=h
theorem MDT(h:q)(e:q->p:=by intro z;exact And.intro (fun q=>absurd (show op=8 from q) ME) (fun _=>z)):p:=e h
theorem MDU(h:p:=by exact⟨[],[],[], .returned (.p (.bool true)),GQ ds b (EA ds) l,rfl,sk,sk,by rw [hB],rfl⟩):p:=h
theorem MDV(h:p:=by omega):p:=h
theorem MDW(h:p:=by exact⟨rfl,rfl,qH (fun n:Nat=>i64 n) hm.symm,rfl,trivial⟩):p:=h
theorem MDX(h:p:=by exact⟨qH (fun z:Int=>AV.p (.int .i64 z)) en,rfl,trivial⟩):p:=h
theorem MDY(h:p:=by exact⟨rfl,rfl,rfl,qN _,fun _ _ _=>rfl,fun _ h=>.inr h,FW.le_refl _,fun _ _ h=>.inl h⟩):p:=h
theorem MDZ(h:p:=by exact⟨(0,[Ac.mk 2 ((l.map De.cells).length:Nat) AQ]),⟨qL _,by show [Ac.mk 2 ((l.map De.cells).length:Nat) AQ]++_=_;rw [E8,K9,hc];rfl⟩,AA [] [(1,3)] [] rfl (sk) (sk) rfl⟩):p:=h
theorem MDa(h:p:=by simp [DataW.TrodAll] at h):p:=h
theorem MDb(h:p:=by
 refine⟨by(repeat' first | exact trivial | exact rfl | exact qH (fun z:Int=>AV.p (.int .i64 z)) (wrap_i64 (n:=((n % 2:Nat):Int)) MBc ME) | refine And.intro ?_ ?_),?_⟩
 refine MCH ?_
 exact MBE):p:=h
theorem MDc(h:p:=by
 refine⟨by(repeat' first | exact trivial | exact rfl | exact qH (fun z:Int=>AV.p (.int .i64 z)) (wrap_i64 (n:=((n % 2:Nat):Int)) MBc ME) | refine And.intro ?_ ?_),?_⟩
 refine MCH ?_
 exact MBC):p:=h
theorem MDd(h:p:=by
 refine⟨by(repeat' first | exact trivial | exact rfl | exact qH (fun z:Int=>AV.p (.int .i64 z)) (wrap_i64 (n:=((n % 2:Nat):Int)) MBc ME) | refine And.intro ?_ ?_),?_⟩
 refine MCH ?_
 exact MA1):p:=h
theorem MDe(h:p:=by
 refine⟨by(repeat' first | exact trivial | exact rfl | exact qH (fun z:Int=>AV.p (.int .i64 z)) (wrap_i64 (n:=((n % 2:Nat):Int)) MBc ME) | refine And.intro ?_ ?_),?_⟩
 refine MCH ?_
 exact MA0):p:=h
theorem MDf(h:p:=by
 rename_i e
 simp only [e]
 rw [Hf] at h
 exact h):p:=h
theorem MDg(h:p:=by
 have m1:¬ (k:Int)<(AJ.length:Nat):=m1
 rw [Ar ME] at k2
 have Bt:r ∉ AJ:=fun hr=>k2 r hr rfl
 rw [qM Bt] at hR
 exact⟨[],[],[], .returned (.p (i64 7)),GQ ds a es l,rfl,sk,sk,Gg hR.symm,rfl⟩):p:=h
theorem MDh(h:p:=by show(0:Int)<=(k:Nat)/\((k:Nat):Int)<(nd.length:Nat);omega):p:=h
theorem MDi(h:p:=by exact⟨_,_,rfl,rfl,_,_,rfl,rfl,_,_,rfl,rfl,_,_,rfl,rfl,_,_,rfl,rfl,_,_,rfl,rfl,_,_,rfl,rfl,_,_,rfl,rfl,_,_,rfl, .inr (.inl rfl),_,_,rfl, .inr (.inr ⟨10,rfl⟩),rfl⟩):p:=h
theorem MDj(h:p:=by
 refine AR iW MK ?_
 refine⟨MK,[], .iface yC (i64 (m:Nat)),rfl,rfl,rfl,_,rfl,?_⟩
 exact⟨[],[],[], .returned (.p (.iface yC (i64 (m:Nat)))),UF ds ms ns eb es _,rfl,sk,sk,_,PW,rfl,rfl⟩):p:=h
theorem MDk(h:p:=by exact⟨.panic ch,σ',CS,H',BU,hx,⟨Gz,rfl,hp⟩,⟨df0,hs,hx0.tr hl.2.2.2⟩,hl⟩):p:=h
theorem MDl(h:p:=by
 rcases qa.1 hx with hx | hx
 ·exact k2 x hx
 ·rw [qP.1 hx];exact r1):p:=h
theorem MDn(h:p:=by simp [Aq] at hn):p:=h
theorem MDp(h:q)(e:q->p:=by intro z;exact And.intro (fun _=>z) (fun h=>absurd (show(i:Int)<((ns.map Pt.cells).length:Nat) by rw [hns];omega) h)):p:=e h
theorem MDq(h:p:=by
 refine AR iW MK ?_
 refine⟨MK,[], .iface iU (.agg []),rfl,rfl,rfl,_,rfl,?_⟩
 exact⟨[],[],[], .returned (.p (.iface iU (.agg []))),UF ds ms ns eb es _,rfl,sk,sk,_,PW,rfl,rfl⟩):p:=h
theorem MDr(h:p:=by
 obtain⟨l,k,ha⟩:=ha
 obtain⟨l',k',hb⟩:=hb
 rw [Tt,LY,LY,LY]
 exact⟨⟨(fun h=>by cases h),fun h=>absurd h ML⟩,by show 2<=100;decide,gX d a l k ha,gX d b l' k' hb,trivial⟩):p:=h
theorem MDs(h:p:=by exact⟨_,_,rfl,rfl,_,_,rfl,⟨_,rfl,MCa,AB (by simp)⟩,_,_,rfl,⟨_,rfl,by show 0+cs.length<=(cs.map i64).length;simp,AB MBV⟩,_,_,rfl,rfl,_,_,rfl,rfl,rfl⟩):p:=h
theorem MDt(h:p:=by exact⟨MK, .inr ⟨hk,rfl⟩⟩):p:=h
theorem MDu(h:p:=by exact⟨_,_,rfl,⟨_,_,rfl,rfl,_,_,rfl,rfl,_,_,rfl,rfl,_,_,rfl,rfl,_,_,rfl,⟨_,rfl,MCa,AB MBV⟩,_,_,rfl,(by first | exact rfl | exact .inl rfl),rfl⟩,rfl⟩):p:=h
theorem MDv(h:p:=by show k+1<=nd.length;omega):p:=h
theorem MDw(h:q)(e:q->p:=by intro z;exact⟨((2 * i:Nat):Int),by show _=IntKind.i64.wrap (2 * (i:Int));rw [xS];exact wrap_i64 MBc ME,z⟩):p:=e h
theorem MDx(h:p:=by exact⟨by omega,(Nd.mk xc xp []).cells,AO,rfl⟩):p:=h
theorem MDy(h:p:=by exact⟨[],[(0,1),(1,2)],[], .returned (.GG [.sl 0 4 0 rs.length, .sl 1 1 0 cs.length]),⟨2,[(0,Z5 rs),(1,iO cs)]⟩,rfl,sk,sk,rs,cs,rfl,rfl,k2⟩):p:=h
theorem MDz(h:p:=by
 obtain⟨n,p,q1,h1,h2,h3,h4,rfl⟩:=hk
 rcases Fw h1 with ⟨rfl,rfl⟩ | ⟨ES,hp⟩
 ·grind [Gm.Bq]
 ·rw [Gm.Bp _ _ ES] at h3
  exact .inr ⟨n,p,q1,hp,h2,h3,h4,rfl⟩):p:=h
theorem MD0(h:p:=by show _=IntKind.i64.wrap (((l.map Cs.cells).length:Int) - 1);rw [hm,show(l.length:Int) - 1=((l.length - 1:Nat):Int) by omega];exact wrap_i64 MBc ME):p:=h
theorem MD1(h:p:=by
 unfold Instr.checkKey
 simp only [Sem.run_bind,run_underlying hu,Result.andThen_ok]
 rfl):p:=h
theorem MD2(h:p:=by exact⟨MBt,MBW,MC,trivial⟩):p:=h
theorem MD3(h:p:=by
 rw [AU Bu hk] at hx
 rcases qa.1 hx with hx | hx
 ·exact .inr hx
 ·exact .inl (qP.1 hx)):p:=h
theorem MD4(h:q)(e:q->p:=by intro z;exact And.intro (fun _=>z) (fun h=>absurd (show(-1:Int)<0 from ML) h)):p:=e h
theorem MD5(h:p:=by
 rename_i m j f
 obtain⟨⟨h0,h1⟩,rfl⟩:=hv
 simp only [VR] at hx
 obtain⟨q,hq,BF,rfl⟩:=hx
 exact⟨_,Km hu hs h0 h1,by simp only [VR];exact⟨q,hq,BF,MAe⟩⟩):p:=h
theorem MD6(h:p:=by
 rename_i n i f
 simp only [VR] at hx
 obtain⟨q,hq,BF,rfl⟩:=hx
 simp only [Ba.EW] at hv
 subst hv
 exact⟨_,P7 hu aGw hk,by simp only [VR];exact⟨q,hq,BF,MAe⟩⟩):p:=h
theorem MD7(h:q)(e:q->p:=by intro z;exact And.intro (fun q=>absurd (show(0:Int)<0 from q) ML) (fun _=>z)):p:=e h
theorem MD8(h:q)(e:q->p:=by intro z;exact And.intro (fun h=>absurd (show(4:Int)=2 from h) ML) (fun _=>z)):p:=e h
theorem MD9(h:q)(e:q->p:=by intro z;exact And.intro (fun h=>absurd (show(0:Int)<0 from h) ML) (fun _=>z)):p:=e h
theorem MEA(h:p:=by
 refine And.intro (fun h1=>?_) (fun h1=>?_)
 ·refine And.intro (fun h2=>?_) (fun h2=>?_)
  ·exact AL _ rfl rfl (Af (by simp [isLet];omega))
  ·exact M6
 ·exact M6):p:=h
theorem MEB(h:p:=by show _=IntKind.i64.wrap ((card.toNat:Int).tmod 2);rw [show(card.toNat:Int).tmod 2=((card.toNat % 2:Nat):Int) from rfl];exact wrap_i64 MBc ME):p:=h
theorem MEC(h:p:=by exact⟨by omega,_,AO,rfl⟩):p:=h
theorem MED(h:p:=by
 obtain⟨v,hy,hk⟩:=Ba.YY hv
 obtain⟨v',h1,h2⟩:=KE h Fa o (v:=v) (by rw [e];exact hy)
 exact Q8 (by rw [hx];exact h1) ⟨v,H,Γ,hk,h2,Au.refl h _ (qN _)⟩):p:=h
theorem MEE(h:p:=by simp only [VR];simp_all):p:=h
theorem MEF(h:p:=by exact⟨by omega,rfl⟩):p:=h
theorem MEG(h:q)(e:q->p:=by intro z;exact⟨rfl,_,⟨6,(Xi ds ms ns eb es Kw)++[(5,bL ⟨rn,rm,rp,ri⟩),(4,iO xs)]⟩,rfl,rfl,z⟩):p:=e h
theorem MEH(h:p:=by
 have hx:=h.apart m p n o q1 q2 hp hn
 rcases LF m' p' Q6 with ⟨rfl,rfl⟩ | ⟨rC,Q6⟩
 ·simp_all
 ·exact h.apart m p m' p' q1 q2 hp Q6 ES GA QW hf hl TK):p:=h
theorem MEI(h:p:=by exact AL (.agg [.Ai 6 Y]) rfl ⟨_,rfl,_,_,rfl,⟨_,rfl,by show 0+(2+i)<=Y.length;omega,AB ME⟩,rfl⟩ ⟨_,_,_,rfl,k2.up,by omega,by omega,by omega⟩):p:=h
theorem MEJ(h:p:=by rw [show((m+1:Nat):Int) - 1=(m:Int) by omega];exact wrap_i64 MBc ME):p:=h
theorem MEK(h:p:=by
 simp only at h
 split at h <;> try cases h
 rename_i e7
 split at h <;> cases h
 rename_i e8
 exact UU C e7 ((Xp e8).mono fun a b ⟨h1,h2⟩=>⟨h1,rfl,h2⟩)):p:=h
theorem MEL(h:p:=by simp;omega):p:=h
theorem MEM(h:p:=by rw [qj];omega):p:=h
theorem MEN(h:p:=by
 have j3:(8:Int)<((Ah.map i64).length:Nat):=j3
 rw [F4] at j3
 exact AL _ rfl rfl (Af (Bt (by rw [EE,qF (show ¬ Ah.length<=8 by omega),kH];rfl)).symm)):p:=h
theorem MEO(h:p:=by show(0:Int)<=(v:Nat)/\((v:Nat):Int)<8;omega):p:=h
theorem MEQ(h:q)(e:q->p:=by intro z;exact And.intro (fun q=>absurd (show op=9 from q) ME) (fun _=>z)):p:=e h
theorem MER(h:p:=by exact⟨_,rfl,_,_,rfl,rfl,rfl⟩):p:=h
theorem MES(h:q)(e:q->p:=by intro z;exact And.intro (fun _=>z) (fun h=>absurd (show(m.toNat:Int).tmod 8=2 by rw [e8];omega) h)):p:=e h
theorem MEU(h:q)(e:q->p:=by intro z;exact And.intro (fun _=>z) (fun h=>absurd (show(m.toNat:Int).tmod 8=1 by rw [e8];omega) h)):p:=e h
theorem MEV(h:q)(e:q->p:=by intro z;exact And.intro (fun _=>z) (fun h=>absurd (show(m.toNat:Int).tmod 8=0 by rw [e8];omega) h)):p:=e h
theorem MEW(h:p:=by simpa using hk):p:=h
theorem MEX(h:p:=by show Ah.length - (k+1)<Ah.length - k;omega):p:=h
theorem MEY(h:p:=by show AJ.length - (k+1)<AJ.length - k;omega):p:=h
theorem MEZ(h:p:=by exact⟨by show k+1<=AZ.length;omega,k2⟩):p:=h
theorem MEa(h:q)(e:q->p:=by intro z;exact⟨by show 0+acc.length<=(acc.map i64).length;simp,acc.map i64,AB MBV,by show(acc.length+1) * 8<=140737488355328;have:=k2.len;omega,(acc++[v]).map i64,by simp,z⟩):p:=e h
theorem MEb(h:p:=by
 have h2:(12:Int)<((l.map Cs.cells).length:Nat):=h2
 rw [hm] at h2
 exact AL _ rfl rfl (Af (by rw [Bi,qF (show ¬ l.length<=12 by omega),kH];rfl))):p:=h
theorem MEc(h:p:=by
 cases x with
 | Ad=>exact .inl rfl
 | agg cs=>
  cases cs with
  | nil=>rfl
  | cons a r=>
   cases a with
   | Ad=>exact⟨_,rfl,Pe _⟩
   | _=>rfl
 | _=>rfl):p:=h
theorem MEd(h:p:=by exact⟨hR',Ext.refl _ _,hn,⟨rfl,rfl,rfl,qN _,fun _ _ _=>rfl,fun k hk=>.inr (U3 k hk),FW.le_refl _,fun _ _ h=>.inl h⟩⟩):p:=h
theorem MEe(h:p:=by
 simp only [Ba.EW] at hv
 subst hv
 simp only [VR,VP] at hx
 rcases hx with ⟨rfl,a,c,rfl⟩ | ⟨b,o,c,arr,us,rfl,_⟩
 ·exact sl hu
 ·exact sl hu):p:=h
theorem MEf(h:p:=by
 obtain⟨q1,e1,e2⟩:=h.Dz m p hp
 exact⟨q1,e1,e2.ext (Gm.le_refl _) fun hl=>Dv (vW (h.apart n o m p q q1 hn hp (vW ES) hq e1 Ea BF hl))⟩):p:=h
theorem MEg(h:p:=by
 show EJ (GH (marks ((5,aHV x)::aBV n (BX n) ((FM 0 (CF n) v).set v (GR (x.parents.take x.parents.length)))) [2,3]) 5) _ _
 rw [hss]
 exact aPS):p:=h
theorem MEh(h:p:=by
 rcases Fw Q6 with ⟨rfl,rfl⟩ | ⟨rC,Q6⟩
 ·grind [Gm.Bq]
 ·rw [Gm.Bp _ _ rC] at QW
  exact h.apart n p m p' q1 q2 hp Q6 ES GA QW Ea BF PZ):p:=h
theorem MEi(h:p:=by exact⟨_,rfl,rfl,rfl,_,rfl,_,_,rfl,rfl,_,_,rfl,rfl,_,_,rfl,rfl,_,_,rfl,MBt,_,_,rfl,MBW,_,_,rfl,MC,rfl⟩):p:=h
theorem MEj(h:p:=by exact⟨_,rfl,rfl,rfl,_,rfl,sk⟩):p:=h
theorem MEk(h:p:=by exact⟨rfl,rfl,trivial⟩):p:=h
theorem MEl(h:p:=by decide):p:=h
theorem MEm(h:p:=by exact⟨by show k+1<=ds.length;omega,aB,by show Ii ds X (AY ds (ds.take (k+1)));rw [Ch];exact hX,by show nm=(AY ds (ds.take (k+1))).map Mb.name;rw [Ch];exact F4⟩):p:=h
theorem MEn(h:p:=by exact⟨rfl,rfl,rfl,trivial⟩):p:=h
theorem MEo(h:p:=by exact⟨_,rfl,rfl,rfl,_,rfl,JZ (Dc _ _ _ b.pre) ⟨_,_,rfl,rfl,rfl⟩⟩):p:=h
theorem MEp(h:p:=by exact⟨_,rfl,rfl,rfl,_,rfl,_,_,rfl,MBw,rfl⟩):p:=h
theorem MEq(h:p:=by
 refine FI.seq rfl ?_
 refine⟨_, .inl ⟨_,fI,rfl⟩,?_⟩
 refine MC8 ?_
 exact MAZ):p:=h
theorem MEr(h:p:=by exact⟨MCU,MBo,⟨_,rfl,rfl,rfl,_,rfl,_,_,rfl,A9 _ _,_,_,rfl,A9 _ _,_,_,rfl,A9 _ _,_,_,rfl,A9 _ _,_,_,rfl,A9 _ _,rfl⟩,trivial⟩):p:=h
theorem MEs(h:p:=by show ar.length - (k+1)<ar.length - k;omega):p:=h
theorem MEt(h:p:=by exact⟨h.Jq,fun _ _=>rfl,h.Io,fun n o hn=>by simp [Aq] at hn,fun n o q hn=>by simp [Aq] at hn,fun n o m p q q' hn=>MDn⟩):p:=h
theorem MEu(h:p:=by show 0+cur.length<=(cur.map fun i=>i64 (i:Nat)).length;simp):p:=h
theorem MEv(h:p:=by
 simp only [QP,qo] at hd
 subst hd
 exact⟨by simp [Ey,VP],by simp [CZ]⟩):p:=h
theorem MEw(h:p:=by rw [qD];omega):p:=h
theorem MEx(h:p:=by
 obtain⟨t,z,e⟩:=h.Io b arr Qd
 refine⟨t,z,?_⟩
 rw [Dv (fun e'=>?_)]
 ·exact e
 ·subst e';rw [h.own n o q hn Ea hq BF] at Qd;cases Qd):p:=h
theorem MEy(h:p:=by exact⟨[],[(1,0)],[], .returned (.sl 1 3 0 (cur).length),⟨2,[(1,Bz (cur))]⟩,rfl,sk,sk,by rw [hR],by rw [hR]⟩):p:=h
theorem MEz(h:q)(e:q->p:=by intro z;exact And.intro (fun q=>absurd q m0) (fun _=>z)):p:=e h
theorem ME0(h:q)(e:q->p:=by intro z;exact And.intro (fun _=>z) (fun h=>absurd II h)):p:=e h
theorem ME1(h:p:=by
 have o1:d.kind=1:=o1
 refine qA (fun p2=>?_) (fun p2=>?_)
 rotate_left
 ·have p2:¬ d.name=[]:=p2
  exact Mi
 have p2:d.name=[]:=p2
 exact MBB):p:=h
theorem ME2(h:p:=by exact⟨MBw,rfl,rfl,rfl,rfl,trivial⟩):p:=h
theorem ME3(h:p:=by exact⟨0,MDQ,AA [] [] [] rfl ⟨MBt,MBW,MC,rfl,rfl,qH (fun n:Nat=>i64 n) (qB ..).symm,rfl,trivial⟩ (sk) rfl⟩):p:=h
theorem ME4(h:p:=by
 cases u with
 | ret=>grind [MR]
 | F7 ch=>obtain⟨Gz,rfl,_⟩:=hM;simp):p:=h
theorem ME5(h:p:=by unfold Func.isWrapper;first | (rw [qM (by decide +kernel)];kernel_rfl) | (rw [qG (by decide +kernel)];exact MC)):p:=h
theorem ME6(h:p:=by rw [hR,qD] at hl;omega):p:=h
theorem ME7(h:p:=by kernel_rfl):p:=h
theorem ME8(h:p:=by exact⟨rfl,qH (fun z:Int=>AV.p (.int .i64 z)) en,rfl,rfl,qH (fun z:Int=>AV.p (.int .i64 z)) eo,rfl,trivial⟩):p:=h
theorem ME9(h:p:=by exact⟨ML,(De.mk tk tn tnm LA trs tcs).cells,ht,rfl⟩):p:=h
theorem MFA(h:p:=by exact⟨.tuple #[],w,by simp [Builtin.clear_,run_underlying hu],Bv,H,Γ,nothing rfl,hU _,Au.refl h _ (qN _)⟩):p:=h
theorem MFB(h:p:=by
 obtain⟨a,b,c,d⟩:=r
 simp only [Rf.cells,Bu,jc,PV.str.injEq,PV.int.injEq,zL,and_true] at h4
 obtain⟨rfl,rfl,rfl,rfl⟩:=h4
 rfl):p:=h
theorem MFC(h:p:=by
 obtain⟨k₁,h1,h2⟩:=DY.2 hr (hx.trans hk)
 grind [StepsIn.trans]):p:=h
theorem MFD(h:p:=by exact⟨by omega,(Pc.mk w o n m a b c).cells,AO,rfl⟩):p:=h
theorem MFE(h:p:=by exact⟨[],[],[], .returned (vB false),⟨1,[]⟩,rfl,sk,trivial,by rw [Bt (by simp [Ay,Az, *])];exact MC⟩):p:=h
theorem MFF(h:p:=by
 have m3:(9999:Int)<Ah.getD k 0:=m3
 exact AL _ rfl rfl (Af (bad (by rw [Im,qF (show ¬ Ah.getD k 0<=9999 by omega),kH])).symm)):p:=h
theorem MFG(h:p:=by
 have e:=qH List.length k2
 rw [qD,qD] at e
 omega):p:=h
theorem MFH(h:p:=by exact⟨[],[(6,6)],[], .returned Bv,wkT ds a es ⟨dk,dn,AQ,Ab,AJ,AZ⟩ (cur),rfl,sk,sk,rfl,by rw [hRc]⟩):p:=h
theorem MFI(h:p:=by exact⟨0,qL _,AA [] [] [] rfl ⟨rfl,rfl,rfl,qH (fun n:Nat=>i64 n) hm.symm,rfl,trivial⟩ trivial rfl⟩):p:=h
theorem MFJ(h:p:=by exact⟨by omega,(Rf.mk rn rm rp ri).cells,AO,rfl⟩):p:=h
theorem MFK(h:q)(e:q->p:=by intro z;exact holdsN_of_vc Tryz.func61 rfl rfl rfl z):p:=e h
theorem MFL(h:p:=by exact AL _ rfl rfl (bad (by simp [OJ];omega))):p:=h
theorem MFM(h:p:=by
 simp only [OL] at h
 obtain⟨z,rfl,h⟩:=h
 simp only [VR] at hv ⊢
 obtain⟨Dt,rfl,hv⟩:=hv
 exact⟨Dt,rfl,J3.vr h hv⟩):p:=h
theorem MFN(h:p:=by
 show(CF n).map u64=(((FM 0 (CF n) n.nodes.length).map u64).drop 0).take n.nodes.length
 rw [PD]
 exact AB (by rw [qB,Ta])):p:=h
theorem MFO(h:p:=by exact⟨_,rfl,rfl,rfl,rfl⟩):p:=h
theorem MFP(h:p:=by exact⟨rfl,rfl,rfl,rfl⟩):p:=h
theorem MFQ(h:p:=by rw [Av,qG (by decide),qG MEl,qM rfl,DF,qE h3,Jv hq.1 (by omega),Jv hv.1 (by omega),qE (by omega),qE MDV];rfl):p:=h
theorem MFR(h:p:=by show Dq [];rw [Dq];decide):p:=h
theorem MFT(h:p:=by rw [e];rfl):p:=h
theorem MFU(h:p:=by exact⟨by omega,i64 cd,Gu,rfl⟩):p:=h
theorem MFV(h:p:=by exact⟨_,_,rfl,MC,Dc _ _ _ Et⟩):p:=h
theorem MFW(h:q)(e:q->p:=by intro z;exact⟨1+((o.toNat % 4:Nat):Int),wrap_i64 MBc ME,z⟩):p:=e h
theorem MFX(h:p:=by show 0+cur.length<=(cur.map Ac.cells).length;simp):p:=h
theorem MFY(h:p:=by rw [hpm];omega):p:=h
theorem MFZ(h:q)(e:q->p:=by intro z;exact⟨rfl,_,⟨6,(5,Bz Ex)::(1,EX (EA (ds.take k)))::(0,Ej ds (k:Nat) 5 Ex.length)::[(4,Bl ⟨4,dn,AQ,Ab,AJ,AZ⟩),(3,faO)]⟩,rfl,rfl,z⟩):p:=e h
theorem MFa(h:q)(e:q->p:=by intro z;exact⟨rfl,_,⟨6,(5,Bz Ex)::(1,EX (EA (ds.take k)))::(0,Ej ds (k:Nat) 5 Ex.length)::[(4,Bl ⟨3,dn,AQ,Ab,AJ,AZ⟩),(3,faO)]⟩,rfl,rfl,z⟩):p:=e h
theorem MFb(h:q)(e:q->p:=by intro z;exact⟨rfl,_,⟨6,(5,Bz Ex)::(1,EX (EA (ds.take k)))::(0,Ej ds (k:Nat) 5 Ex.length)::[(4,Bl ⟨2,dn,AQ,Ab,AJ,AZ⟩),(3,faO)]⟩,rfl,rfl,z⟩):p:=e h
theorem MFc(h:p:=by exact AL _ rfl rfl (Bf (by rw [Bt (by simp [Ay,Az, *])];rfl))):p:=h
theorem MFd(h:p:=by exact⟨(0,[]),⟨qL _,by show []++_=_;rw [E8,K9,hc];rfl⟩,AA [] [] [(1,3)] rfl (sk) (sk) rfl⟩):p:=h
theorem MFe(h:p:=by simp only [Ba.EW] at hv;grind):p:=h
theorem MFf(h:q)(e:q->p:=by intro z;exact⟨by show 0+fs.length<=fs.length;omega,fs,AB rfl,by show(fs.length+1) * 8<=140737488355328;omega,fs++[PV.fn (.func g) [] Et],rfl,z⟩):p:=e h
theorem MFg(h:p:=by exact⟨_,hs,rfl⟩):p:=h
theorem MFh(h:p:=by exact⟨_,hb,rfl⟩):p:=h
theorem MFi(h:q)(e:q->p:=by intro z;exact pure_of_vc Tryz.func89 rfl rfl rfl z):p:=e h
theorem MFj(h:p:=by exact⟨by omega,i64 (Ah.getD k 0),Ff hk,rfl⟩):p:=h
theorem MFk(h:p:=by simp only [NM] at h;subst h;rfl):p:=h
theorem MFl(h:p:=by simp [partsOf,Tryz.underlying5]):p:=h
theorem MFm(h:q)(e:q->p:=by intro z;exact⟨MO,[Ac.cells (Ac.mk 2 ((l.map De.cells).length:Nat) AQ)],rfl,z⟩):p:=e h
theorem MFn(h:p:=by show refs.length - (k+1)<refs.length - k;omega):p:=h
theorem MFo(h:p:=by show 0+(R.length+1)<=((r0::R).map ints).length;rw [qB];exact Nat.le_of_eq (by rw [qR];omega)):p:=h
theorem MFp(h:p:=by
 refine And.intro (fun _=>?_) (fun h=>absurd (show(0:Int)<((R.map Ac.cells).length:Nat) from MAI) h)
 exact MAl):p:=h
theorem MFq(h:p:=by
 have j2:((Ah.map i64).length:Int)<1:=j2
 rw [F4] at j2
 exact AL _ rfl rfl (Af (Bt (by rw [EE,qF ME];rfl)).symm)):p:=h
theorem MFr(h:p:=by
 simp only [VR,FH] at h ⊢
 obtain⟨u,h1,h2⟩:=h
 exact⟨u,h1,JW hn cs _ (by simpa only [RH] using hf) h2⟩):p:=h
theorem MFs(h:p:=by exact⟨e',w'',fr',hR',ComesIn.of_steps (.head (BO _) h1 (StepsIn.trans Ke (.one (BO _) h2))) hs',aAr,TK⟩):p:=h
theorem MFt(h:p:=by exact AL _ rfl rfl (Af (by rw [hR,qE e]))):p:=h
theorem MFu(h:p:=by show(rs.length+1) * 48<=140737488355328;omega):p:=h
theorem MFv(h:p:=by exact⟨[],[],[], .returned (.p (.bool false)),⟨1,[(0,RY vals)]⟩,rfl,sk,sk,rfl,rfl⟩):p:=h
theorem MFw(h:p:=by exact⟨[],[],[], .returned (.GG [.p (i64 0),vB false]),GQ ds a es l,rfl,sk,sk,rfl,rfl⟩):p:=h
theorem MFx(h:p:=by exact⟨rfl,rfl,rfl,rfl,MC,qH (fun k:Nat=>AV.sl 4 11 0 k) (Ak out _).symm,rfl,trivial⟩):p:=h
theorem MFy(h:p:=by exact⟨[],[],[], .returned (.p (.bool true)),⟨1,[(0,RY vals)]⟩,rfl,sk,sk,rfl,rfl⟩):p:=h
theorem MF1(h:p:=by
 split at h <;> cases h
 rename_i e;simp only [e];exact hk):p:=h
theorem MF2(h:p:=by
 rintro⟨k,b⟩ ⟨k1,k2⟩
 simp only [] at k1 k2
 refine qA (fun m1=>?_) (fun m1=>?_)
 ·exact MBY
 exact MBd):p:=h
theorem MF3(h:p:=by exact⟨rfl,⟨[],rfl,zo,fun b hb=>by cases hb⟩,fun _ _=>trivial,fun _ _=>trivial⟩):p:=h
theorem MF4(h:q)(e:q->p:=by intro z;exact AL (.agg [i64 5,i64 0,i64 0,i64 0, .str nm,i64 md, .str pl,i64 rn, .Dh ((([0,1]:List Int).map i64).drop j), .Ad]) rfl rfl z):p:=e h
theorem MF5(h:p:=by
 have h1:((l.map Cs.cells).length:Int)<1:=h1
 rw [hm] at h1
 exact AL _ rfl rfl (Af (by rw [Bi,qF ME];rfl))):p:=h
theorem MF6(h:p:=by exact⟨[],[],[], .returned (.p (.bool _)),⟨1,[(0,RY vals)]⟩,rfl,sk,sk,rfl,rfl⟩):p:=h
theorem MF7(h:p:=by
 rw [qQ] at p1
 rw [p1] at hI
 refine hI.eq rfl ?_
 exact Mm):p:=h
theorem MF8(h:p:=by show Dq [122];rw [Dq];decide):p:=h
theorem MGA(h:p:=by cases h):p:=h
theorem MGB(h:p:=by
 refine key _ hd ?_ rfl rfl
 simp only [receiverAt,Sem.run_bind,run_underlying hd,Result.andThen_ok]
 rfl):p:=h
theorem MGC(h:p:=by
 obtain⟨e0,H',BU,k1,k2,k3⟩:=hP
 obtain⟨e2,k4,k5⟩:=hq e0 H' k1
 exact⟨e2,H',BU,k5,k4.er k2,k3⟩):p:=h
theorem MGD(h:p:=by exact AL _ rfl rfl (Af hB.symm)):p:=h
theorem MGE(h:q)(e:q->p:=by intro z;exact And.intro (fun h=>absurd (show(4:Int)=3 from h) ML) (fun _=>z)):p:=e h
theorem MGF(h:p:=by
 have h1:=gV ds
 have h2:=VH (BD ds) (ds.take k) [] fun d hd=>hdv d (kQ hd)
 rw [qj] at h2
 rw [qD];omega):p:=h
theorem MGG(h:p:=by simp only [EE,jB,hw,jq];rfl):p:=h
theorem MGH(h:p:=by show(0:Int)<=(k:Nat)/\((k:Nat):Int)<=((ds.map De.cells).length:Nat);rw [hm];omega):p:=h
theorem MGI(h:p:=by exact⟨rfl,fun h=>h,fun s tc h=>h,fun us h=>CJ.2 (by rw [<- hf];exact CJ.1 h)⟩):p:=h
theorem MGJ(h:p:=by exact⟨rfl,(y8 ..).symm⟩):p:=h
theorem MGK(h:p:=by exact⟨by omega,by simp⟩):p:=h
theorem MGL(h:q)(e:q->p:=by intro z;exact⟨((Ao [] (ds.take k)+0:Nat):Int),MAz,z⟩):p:=e h
theorem MGM(h:p:=by
 simp [IntKind.wrap,IntKind.bits,IntKind.signed]
 omega):p:=h
theorem MGN(h:p:=by
 rw [qG ME,qU] at hR
 exact⟨[],[(3,2)],[], .returned Bv,VI ds a es (l),rfl,sk,sk,rfl,by rw [hR]⟩):p:=h
theorem MGQ(h:p:=by rw [Bn];have:=xH (fun d:De=>decide (d.kind=5)) (ds.take k);rw [qj] at this;omega):p:=h
theorem MGR(h:p:=by exact⟨Gz,rfl,hp⟩):p:=h
theorem MGS(h:p:=by exact⟨.mk ao an ar av af G8 aa,⟨nn,bG,VE⟩,AA [] [] [] rfl (sk) (sk) rfl⟩):p:=h
theorem MGT(h:q)(e:q->p:=by intro z;exact .inr ⟨q.blk,off * q.s,_,us++rest,(us.drop (off * q.s)).take (len * q.s),by rw [uX],by omega,h8 Ea,z,mX h6 rfl ME⟩):p:=e h
theorem MGU(h:p:=by
 simp only [bz] at k4
 subst k4
 exact Em):p:=h
theorem MGV(h:p:=by
 obtain⟨q',e1,e2⟩:=Qa.Dz n o h1
 rw [h3] at e1;injection e1 with e1;subst e1
 have:=e2.IP h4
 omega):p:=h
theorem MGW(h:p:=by exact⟨rfl,MC,qH (fun k:Nat=>AV.sl 3 1 0 k) (Ak acc v).symm,rfl,rfl,trivial⟩):p:=h
theorem MGX(h:p:=by
 subst h1
 refine cells rfl rfl (fun h=>?_) (fun s tc h=>h) fun us PD=>Dk hR _ _ _ h2 PD
 grind [NM]):p:=h
theorem MGY(h:p:=by
 split at h <;> cases h
 rename_i e3 e4 e5
 simp only [e3]
 rw [Il,Hw] at e5
 exact⟨ige e4,_,e5,rfl⟩):p:=h
theorem MGd(h:p:=by
 cases h
 rcases he a b with ⟨e1,e2⟩ | ⟨e1,e2⟩ <;> rw [e1]
 ·exact .inl MC0
 ·exact .inr MC0):p:=h
theorem MGf(h:q)(e:q->p:=by intro z;exact And.intro (fun q=>absurd q m2) (fun _=>z)):p:=e h
theorem MGg(h:p:=by
 rw [AU 0 hk] at hx
 rcases qa.1 hx with hx | hx
 ·exact k2 x hx
 ·rw [qP.1 hx,Im,qE MBc,qE ME];rfl):p:=h
theorem MGh(h:p:=by
 rcases xB i ops.size with h | h
 ·exact h
 ·simp_all):p:=h
theorem MGi(h:p:=by exact⟨by show i+1<=(AY ds ds).length;omega,by assumption,dR.symm,oI.symm⟩):p:=h
theorem MGj(h:p:=by
 unfold N7 at h
 unfold Wu
 exact Vg C h):p:=h
theorem MGk(h:p:=by exact⟨qL _,rfl⟩):p:=h
theorem MGl(h:p:=by exact⟨_,hf,rfl⟩):p:=h
theorem MGm(h:p:=by exact⟨.int .i64 n,by simp [Builtin.len_,run_underlying hu,goInt],by rfl⟩):p:=h
theorem MGn(h:q)(e:q->p:=by intro z;exact AL (.agg [i64 6,i64 q,i64 (1+((o.toNat % 4:Nat):Int)),i64 v, .str nm,i64 md, .str pl,i64 rn, .Ad, .Ad]) rfl rfl z):p:=e h
theorem MGo(h:q)(e:q->p:=by intro z;exact AL (.agg [i64 (1+((o.toNat % 4:Nat):Int)),i64 v,i64 0,i64 0, .str nm,i64 md, .str pl,i64 rn, .Ad, .Ad]) rfl rfl z):p:=e h
theorem MGp(h:p:=by exact AL _ rfl rfl (Af (by rw [he,hc,Uv,h2];simp))):p:=h
theorem MGq(h:p:=by show k+1<=AJ.length;omega):p:=h
theorem MGr(h:p:=by show AJ.length<=100;omega):p:=h
theorem MGs(h:q)(e:q->p:=by intro z;exact⟨((n % 2:Nat):Int),wrap_i64 MBc ME,z⟩):p:=e h
theorem MGt(h:q)(e:q->p:=by intro z;exact And.intro (fun q=>absurd (show op=0 from q) ME) (fun _=>z)):p:=e h
theorem MGu(h:p:=by
 cases h
 rcases hs with ⟨e1,e2⟩ | ⟨e1,e2⟩ <;> rw [e1]
 ·exact .inl MC0
 ·exact .inr MC0):p:=h
theorem MGv(h:p:=by rw [Bi,qE (show 1<=l.length by omega),qE (show l.length<=12 by omega)];rfl):p:=h
theorem MGw(h:p:=by
 split at h <;> cases h
 rename_i e5 e6
 simp only [e5]
 rw [GK] at e6
 rw [pW]
 exact⟨ax e6,rfl⟩):p:=h
theorem MGx(h:p:=by
 have w1:x<0:=w1
 exact AL _ rfl rfl (Af (by rw [hR,List.all_eq_false.2 ⟨x,Dy,MEL⟩];rfl))):p:=h
theorem MGy(h:q)(e:q->p:=by intro z;exact And.intro (fun h=>absurd (show e=0 from h) hs) (fun _=>z)):p:=e h
theorem MGz(h:p:=by
 subst k4
 exact cells rfl rfl (fun h=>h) (fun s tc h=>h) fun us PD=>CJ.2 (CJ (Γ:=Γ).1 PD)):p:=h
theorem MG0(h:p:=by simp_all):p:=h
theorem MG1(h:p:=by show 0+1<=1;decide):p:=h
theorem MG2(h:p:=by exact⟨qH (fun z:Int=>AV.p (.int .i64 z)) ea,rfl,rfl,rfl,rfl,trivial⟩):p:=h
theorem MG3(h:p:=by exact⟨_,_,rfl⟩):p:=h
theorem MG4(h:p:=by
 rw [qQ] at n1
 rw [n1] at hN
 refine hN.eq rfl ?_
 exact AL _ rfl rfl (Af (by rw [CU,n1];rfl))):p:=h
theorem MG5(h:p:=by
 rw [qQ] at n1
 rw [n1] at hN
 refine hN.eq rfl ?_
 exact AL _ rfl rfl (Af (by rw [Bg,n1];rfl))):p:=h
theorem MG6(h:p:=by
 have m2:Ah.getD k 0 < -9999:=m2
 exact AL _ rfl rfl (Af (bad (by rw [Im,qF ME];rfl)).symm)):p:=h
theorem MG7(h:p:=by
 cases h
 rcases hl with e | e <;> rw [e]
 ·exact .inl ⟨e,rfl⟩
 ·exact .inr ⟨MC7,rfl⟩):p:=h
theorem MG8(h:p:=by exact⟨⟨rfl,rfl⟩,MCW,MBt,MBW,MC,rfl,rfl,rfl,rfl,rfl,rfl,trivial⟩):p:=h
theorem MG9(h:q)(e:q->p:=by intro z;exact And.intro (fun h=>absurd (show(i:Int)<((ns.map Pt.cells).length:Nat) from h) (by rw [hns];omega)) (fun _=>z)):p:=e h
theorem MHB(h:p:=by cases d <;> first | (simp [aGs] at hc;done) | simp [Instr.typeAssert,run_underlying hu]):p:=h
theorem MHC(h:p:=by show AZ.length - (k+1)<AZ.length - k;omega):p:=h
theorem MHD(h:p:=by exact⟨MBM,fun a ha=>by cases ha⟩):p:=h
theorem MHE(h:p:=by cases hr):p:=h
theorem MHF(h:p:=by simpa using h4):p:=h
theorem MHG(h:p:=by simp only [Cv];exact⟨trivial,trivial,#[],0,heap_alloc_new w _,rfl⟩):p:=h
theorem MHH(h:p:=by grind [OL]):p:=h
theorem MHI(h:p:=by grind [Be]):p:=h
theorem MHJ(h:p:=by exact⟨0,_,H,Γ,[],hv,rfl,hrefl,emp.1,emp.2,rfl,by simp,KF MBV,rfl⟩):p:=h
theorem MHK(h:p:=by exact⟨.normal,σ',CS,H',BU,hk,rfl,⟨df0,hs,hx0.tr hl.2.2.2⟩,hl⟩):p:=h
theorem MHL(h:p:=by
 have:Ah.all Im=true:=by
  rw [qi]
  rw [Ar ME] at k2
  exact k2
 rw [EE,this,qE MBc,qE ME];rfl):p:=h
theorem MHM(h:p:=by exact⟨a == b,by simp [real,Op.equalIn,run_underlying hu],by simp⟩):p:=h
theorem MHN(h:p:=by exact⟨_,emp,by rfl⟩):p:=h
theorem MHO(h:p:=by
 obtain⟨q',e1,_⟩:=hR.Dz m o hm
 have:=hle.nm _ _ e1
 rw [hq] at this
 rw [this];exact e1):p:=h
theorem MHP(h:p:=by simp [partsOf,hu]):p:=h
theorem MHQ(h:p:=by exact⟨hf,rfl⟩):p:=h
theorem MHR(h:p:=by exact⟨hc,rfl⟩):p:=h
theorem MHS(h:p:=by exact⟨by omega,s[k],qW Vr,rfl⟩):p:=h
theorem MHT(h:p:=by exact⟨MK, .inl ⟨_,hk,rfl⟩⟩):p:=h
theorem MHU(h:p:=by exact⟨0,_,H,Γ,[],hv,rfl,hrefl,emp.1,emp.2,rfl,by simp,Ki _,rfl⟩):p:=h
theorem MHV(h:p:=by
 simp only [VR] at hv ⊢
 obtain⟨q,hq,BF,e⟩:=hv
 exact⟨q,by grind [Gm.see],BF,e⟩):p:=h
theorem MHW(h:p:=by
 show 0+n.nodes.length<=((FM 0 (CF n) n.nodes.length).map u64).length
 rw [PD,qB];omega):p:=h
theorem MHX(h:p:=by rw [show(o.toNat:Int).tmod 4=((o.toNat % 4:Nat):Int) from rfl];exact wrap_i64 MBc ME):p:=h
theorem MHY(h:p:=by
 obtain⟨m,hm,rfl⟩:=qz.1 hx
 have:=h.card hm
 exact⟨by show 1<=m.d.n;omega,this.2⟩):p:=h
theorem MHZ(h:p:=by
 have:=Hy (P:=C.P) (w:=w) (b:=q.blk) (o:=0) h5 (fun j u hj=>by grind [HZ]) hl
 simp_all):p:=h
theorem MHa(h:p:=by rw [show((j+1:Nat):Int) - 1=(j:Int) by omega];exact wrap_i64 MBc ME):p:=h
theorem MHb(h:p:=by exact⟨by omega,(Nd.mk yc yp yr).cells,by rw [kL];exact hqc,rfl⟩):p:=h
theorem MHc(h:p:=by exact aDR (K':=fun σ'=>dG C rd N all r σ' _ _ K Z) h fun l' h=>pE hO r z l' _ _ h):p:=h
theorem MHd(h:p:=by show 0+xs.length<=xs.length;omega):p:=h
theorem MHe(h:p:=by show 0+nd.length<=nd.length;omega):p:=h
theorem MHf(h:p:=by rw [qX];rfl):p:=h
theorem MHg(h:p:=by first | exact e1 | (injection e1)):p:=h
theorem MHh(h:p:=by exact⟨rfl,trivial⟩):p:=h
theorem MHi(h:q)(e:q->p:=by intro z;exact pure_of_vc Tryz.func182 rfl rfl rfl z):p:=e h
theorem MHj(h:q)(e:q->p:=by intro z;exact pure_of_vc Tryz.func128 rfl rfl rfl z):p:=e h
theorem MHk(h:p:=by
 rw [hr,aZ fun n=>JQ]
 simp only [CV,aD5,jq,xJ,xX]
 show Nat.ble n0 Y.next=true
 simp_all):p:=h
theorem MHl(h:p:=by grind):p:=h
theorem MHm(h:p:=by
 obtain⟨hc,rfl⟩:=hv
 simp only [binOp,Op.shift]
 rw [qG ME]
 exact⟨_,rfl,by rfl⟩):p:=h
theorem MHn(h:p:=by simpa using qi.1 aDf t (by simpa using Array.mem_of_getElem? ht)):p:=h
theorem MHo(h:p:=by rw [Nj];exact hA):p:=h
theorem MHp(h:p:=by exact⟨qH (fun z:Int=>AV.p (.int .i64 z)) ea,rfl,rfl,trivial⟩):p:=h
theorem MHq(h:p:=by exact⟨n,o,q,hn,Ea,hq,BF,rfl⟩):p:=h
theorem MHr(h:p:=by exact⟨by omega,i64 x,hc,rfl⟩):p:=h
theorem MHs(h:p:=by exact⟨MBw,rfl,rfl,qH (fun n:Nat=>i64 n) hm.symm,rfl,trivial⟩):p:=h
theorem MHt(h:q)(e:q->p:=by intro z;exact⟨rfl,_,⟨4,(2,Bz [])::(1,EX (EA (ds.take k)))::(0,Ej ds (k - 1:Nat) 2 0)::[(3,faO)]⟩,rfl,rfl,z⟩):p:=e h
theorem MHu(h:q)(e:q->p:=by intro z;exact And.intro (fun h=>absurd (show((ds.map De.cells).length:Int)=0 from h) (by rw [hm];omega)) (fun _=>z)):p:=e h
theorem MHv(h:q)(e:q->p:=by intro z;exact And.intro (fun _=>z) (fun h=>absurd (show(i:Int)<((ps.map Pc.cells).length:Nat) by rw [hps];omega) h)):p:=e h
theorem MHw(h:p:=by simpa using this):p:=h
theorem MHx(h:p:=by
 simp only [VR,FH] at h ⊢
 obtain⟨u,h1,h2⟩:=h
 exact⟨u,h1,LM hn hf cs _ h2⟩):p:=h
theorem MHy(h:p:=by
 rw [i2]
 rcases xB (i+1) l.length with h3 | h3
 ·rw [BJ h3,h];rfl
 ·rw [Sq ME,h];rfl):p:=h
theorem MHz(h:p:=by decide):p:=h
theorem MH0(h:p:=by exact⟨_,rfl,rfl,rfl,_,rfl,sk⟩):p:=h
theorem MH1(h:p:=by exact⟨[],rfl,rfl⟩):p:=h
theorem MH2(h:p:=by exact⟨MBW,MC,rfl,qH (fun n:Nat=>i64 n) hm.symm,rfl,trivial⟩):p:=h
theorem MH3(h:p:=by
 simp only at h ⊢
 split at h <;> try exact h.elim
 rename_i e
 simp only [e]
 exact h):p:=h
theorem MH4(h:p:=by exact⟨_,rfl,_,_,rfl,h1,rfl⟩):p:=h
theorem MH5(h:p:=by exact⟨_,rfl,Dh _ rfl rfl _⟩):p:=h
theorem MH6(h:q)(e:q->p:=by intro z;exact⟨(n.toNat:Int),en,z⟩):p:=e h
theorem MH7(h:p:=by
 show some (AV.p (.int .i64 (.ofNat (IV xs))))=_
 rw [GK]
 simp only [Kj,Oh,e3];rfl):p:=h
theorem MH8(h:p:=by exact⟨by omega,(Cd.mk xo xn xr xv xf xs xa).cells,AO,rfl⟩):p:=h
theorem MH9(h:p:=by exact⟨ML,fun c hc=>(by cases hc),fun c hc=>(by cases hc)⟩):p:=h
theorem MIA(h:p:=by
 rcases he b 0 with ⟨e1,e2⟩ | ⟨e1,e2⟩
 ·rw [e1] at e;cases e
 ·exact MC0):p:=h
theorem MIB(h:p:=by simp only [Cv];exact⟨trivial,trivial,heap_alloc_new w _⟩):p:=h
theorem MIC(h:p:=by show(out.length+1) * 152<=140737488355328;have:=k2.len;omega):p:=h
theorem MID(h:p:=by show ¬ (((rs.map Rf.cells).length:Nat):Int)=0;rw [TK];omega):p:=h
theorem MIE(h:p:=by kernel_rfl):p:=h
theorem MIF(h:p:=by cases df2 with | none=>rfl | some l=>exact absurd aMg.si MBV):p:=h
theorem MIG(h:q)(e:q->p:=by intro z;exact And.intro (fun h=>absurd (show(5:Int)<(o.toNat:Int).tmod 8 from h) (by rw [f8];omega)) (fun _=>z)):p:=e h
theorem MIH(h:p:=by
 simp only [qo,jQ] at h
 obtain⟨rfl,rfl,rfl⟩:=h
 simp only [VR,VP] at hx
 grind):p:=h
theorem MII(h:p:=by rw [hR,allI,qG (show ¬ YA ds=[] from fun e=>hb (k2.trans e))];exact k2.symm):p:=h
theorem MIJ(h:p:=by
 cases f <;> simp only [aD3,FR] at h2 ⊢ <;> first | exact h2 | skip
 simp_all):p:=h
theorem MIK(h:p:=by exact⟨_,_,rfl,Zx L 4 c,_,_,rfl,Zx L 4 p,_,_,rfl,hv,rfl⟩):p:=h
theorem MIL(h:p:=by
 simp only [e] at h
 obtain⟨k1,k2⟩:=aAL (K:=fun v=>K v (Br X)) e hq h
 grind):p:=h
theorem MIM(h:p:=by
 simp only [VR] at hv ⊢
 obtain⟨u,h1,h2⟩:=hv
 exact⟨u,h1,Cw h cs _ h2⟩):p:=h
theorem MIN(h:p:=by
 cases ds with
 | nil=>exact absurd rfl h0
 | cons d r=>show 1<=r.length+1;omega):p:=h
theorem MIO(h:p:=by unfold Addr.add;split <;> rfl):p:=h
theorem MIP(h:p:=by exact⟨by omega,c,rfl,rfl⟩):p:=h
theorem MIQ(h:p:=by exact⟨by omega,_,rfl,rfl⟩):p:=h
theorem MIS(h:p:=by exact AL _ rfl rfl (Af (by rw [hR,qF e]))):p:=h
theorem MIT(h:p:=by show(AY ds ds).length - (i+1)<(AY ds ds).length - i;omega):p:=h
theorem MIU(h:p:=by exact⟨rfl,fun _=>h,by grind [flat,GJ,Gb],fun e=>qY e⟩):p:=h
theorem MIV(h:p:=by
 split at h <;> try exact h.elim
 exact MDf):p:=h
theorem MIW(h:p:=by
 intro m p hm
 by_cases e:m=n
 ·subst e;rw [QB hn] at hm;simp_all
 ·grind [O3]):p:=h
theorem MIX(h:p:=by simp [Hp.push]):p:=h
theorem MIY(h:p:=by show(0:Int)<=(v:Nat)/\(v:Int)<(n.nodes.length:Nat);omega):p:=h
theorem MIZ(h:p:=by show Dq [113];rw [Dq];decide):p:=h
theorem MIb(h:p:=by exact⟨left - 1,by omega⟩):p:=h
theorem MIc(h:p:=by exact⟨c,hc,by rw [e,NB]⟩):p:=h
theorem MIe(h:p:=by exact⟨_,rfl,rfl,rfl,rfl⟩):p:=h
theorem MIf(h:p:=by exact⟨_,rfl,_,_,rfl,rfl,_,_,rfl,rfl,_,_,rfl,rfl,rfl⟩):p:=h
theorem MIg(h:p:=by exact Gy (.agg yE) (i64 50) rfl rfl rfl (no fun h=>by have:=h.len;omega)):p:=h
theorem MIh(h:p:=by rw [Uj];rfl):p:=h
theorem MIi(h:p:=by exact⟨rfl,fun _=>rfl,by simp [flat,GJ],fun h=>qY h⟩):p:=h
theorem MIj(h:p:=by exact⟨_,_,rfl,A9 L c,_,_,rfl,A9 L p,_,_,rfl,hv,rfl⟩):p:=h
theorem MIk(h:q)(e:q->p:=by intro z;exact And.intro (fun _=>z) (fun h=>absurd (show((ds.map De.cells).length:Int)=0 by rw [h0];rfl) h)):p:=e h
theorem MIl(h:p:=by
 show s.length - (k+1)<s.length - k
 omega):p:=h
theorem MIn(h:p:=by unfold F6;repeat' (first | (split;rotate_left) | simp)):p:=h
theorem MIo(h:p:=by show ¬ cd=0;omega):p:=h
theorem MIp(h:p:=by show k+1<=refs.length;omega):p:=h
theorem MIq(h:p:=by cases a <;> cases b <;> rfl):p:=h
theorem MIr(h:q)(e:q->p:=by intro z;exact⟨((o.toNat % 4:Nat):Int),eo,z⟩):p:=e h
theorem MIs(h:p:=by
 rw [<- QV]
 exact Re fun x hx=>by have:=IJ x hx;exact⟨this,by omega⟩):p:=h
theorem MIt(h:p:=by exact⟨fun m q' e=>by rw [e1];exact e,hL.2.2.2.fz⟩):p:=h
theorem MIu(h:q)(e:q->p:=by intro z;exact And.intro (fun _=>z) (fun h=>absurd (show(5:Int)<(o.toNat:Int).tmod 8 by rw [f8];omega) h)):p:=e h
theorem MIv(h:p:=by subst ha;subst hb;exact h2):p:=h
theorem MIw(h:p:=by simpa using h):p:=h
theorem MIx(h:p:=by simp only [Im,qC,qJ];omega):p:=h
theorem MIy(h:p:=by rw [EO Bu hk,Am,hm,AU Bu hk]):p:=h
theorem MIz(h:p:=by
 cases x.o.dst with
 | none=>exact ih
 | some d=>
  simp only [bI]
  simp_all):p:=h
theorem MI0(h:p:=by show 0+l.length<=((ofN l).map i64).length;simp [Xj]):p:=h
theorem MI1(h:p:=by exact⟨10,rfl⟩):p:=h
theorem MI2(h:p:=by exact⟨(),trivial,AA [] [] [] rfl (sk) (sk) rfl⟩):p:=h
theorem MI3(h:p:=by
 rcases qa.1 hu with h1 | h1
 ·exact h1
 ·simp at h1;exact absurd h1 e):p:=h
theorem MI4(h:p:=by show(0:Int)<=((j:Nat):Int)/\((j:Nat):Int)<=2;omega):p:=h
theorem MI6(h:p:=by show k+1<=ar.length;omega):p:=h
theorem MI8(h:p:=by omega):p:=h
theorem MI9(h:p:=by exact⟨q1,hle.nm _ _ e1,e2.ext hle fun BF=>rfl⟩):p:=h
theorem MJA(h:p:=by exact⟨by omega,(ds.getD k Aj).cells,Fj hk,rfl⟩):p:=h
theorem MJB(h:p:=by
 split at h <;> try exact h.elim
 rename_i e
 exact⟨(LZ _ _).1 e,h⟩):p:=h
theorem MJC(h:p:=by
 refine⟨sk,?_⟩
 refine⟨en2,hN2,AA [] [] [] rfl (sk) (sk) rfl⟩):p:=h
theorem MJD(h:p:=by rw [hR]):p:=h
theorem MJE(h:p:=by exact⟨by omega,(Nd.mk xc xp xr).cells,AO,rfl⟩):p:=h
theorem MJF(h:q)(e:q->p:=by intro z;exact And.intro (fun h=>absurd (show((ar.map Cd.cells).length:Int)=1 from h) MAI) (fun _=>z)):p:=e h
theorem MJG(h:q)(e:q->p:=by intro z;exact And.intro (fun _=>z) (fun h=>absurd (show((ar.map Cd.cells).length:Int)=1 from MAI) h)):p:=e h
theorem MJH(h:p:=by show i+1<=l.length;omega):p:=h
theorem MJK(h:p:=by exact⟨by show j+1<=xr.length;omega,hnR.symm⟩):p:=h
theorem MJL(h:p:=by cases ok <;> rfl):p:=h
theorem MJM(h:p:=by simp only [Sem.run_bind,run_underlying hu,Result.andThen_ok];rfl):p:=h
theorem MJN(h:p:=by
 simp only [BU,qG (show ¬ n<H.next by omega)]
 exact h3.fresh _ ME):p:=h
theorem MJO(h:p:=by rename_i e;cases h;simp only [e];rfl):p:=h
theorem MJP(h:p:=by
 rcases qa.1 hy with hy | hy
 ·exact .inr hy
 ·exact .inl (qP.1 hy)):p:=h
theorem MJQ(h:p:=by show 0+ut.length<=(ut.map Ut.cells).length;simp):p:=h
theorem MJR(h:p:=by show 0+i<=(l.map Kn.cells).length;rw [qB];omega):p:=h
theorem MJS(h:p:=by exact⟨rfl,_,_,rfl,rfl,⟨_,_,rfl,MC,rfl⟩⟩):p:=h
theorem MJU(h:p:=by exact⟨Ck wa.1 (Al (Bw _ ML) wb.1),by grind⟩):p:=h
theorem MJV(h:p:=by
 rename_i x
 simp only [Ba.EW] at hv;subst hv
 exact⟨_,rfl,Fa x⟩):p:=h
theorem MJW(h:p:=by exact Qq _ 2 (Cd.mk op n rel val ⟨rn,rm,rp,ri⟩ st []).cells):p:=h
theorem MJY(h:p:=by exact⟨_,rfl,rfl,rfl,_,rfl,_,_,rfl,MBW,rfl⟩):p:=h
theorem MJZ(h:p:=by exact⟨BF,trivial,fn,tm,qd,Vn,D5 Em,TM,hdn⟩):p:=h
theorem MJa(h:p:=by
 cases ar with
 | nil=>exact absurd rfl hn
 | cons x ar=>rw [CG,Da]):p:=h
theorem MJb(h:p:=by cases Uj:o.c <;> first | rfl | (rw [Uj] at hv;simp [O1] at hv)):p:=h
theorem MJc(h:p:=by simp [Aq] at hn):p:=h
theorem MJd(h:p:=by show(nd.length+1) * 56<=140737488355328;omega):p:=h
theorem MJe(h:p:=by show 0+l.length<=(l.map Ac.cells).length;simp):p:=h
theorem MJf(h:p:=by exact⟨rfl,MBt,MBW,MC,rfl,rfl,rfl,trivial⟩):p:=h
theorem MJg(h:p:=by exact⟨MCW,MBt,MBW,MC,rfl,rfl,rfl,trivial⟩):p:=h
theorem MJh(h:p:=by exact⟨(DL (ds.take k) Ab).toNat,by omega⟩):p:=h
theorem MJi(h:q)(e:q->p:=by intro z;exact⟨((2+n % 2:Nat):Int),MAz,z⟩):p:=e h
theorem MJj(h:p:=by
 simp only [Ls,Uk]
 cases Nat.beq f 0 <;> cases nth xs i <;> rfl):p:=h
theorem MJk(h:p:=by simp [Instr.sliceBounds,Instr.sliceBound,asIntOf,h0,h1,P9,dH]):p:=h
theorem MJl(h:p:=by show(xs.length+1) * 8<=140737488355328;omega):p:=h
theorem MJm(h:p:=by show par.length - (v+1)<par.length - v;omega):p:=h
theorem MJn(h:p:=by rw [hT];rfl):p:=h
theorem MJo(h:p:=by rw [hR,allI,qM (show YA ds=[] from k2.symm)]):p:=h
theorem MJp(h:p:=by exact⟨sk,MBt,MBW,MC,rfl,rfl,rfl,trivial⟩):p:=h
theorem MJq(h:p:=by exact⟨qL _,hN,rfl⟩):p:=h
theorem MJr(h:p:=by
 simp only [Hp.push] at hn
 rw [Gm.Bp _ _ ME]
 exact h.fresh n ME):p:=h
theorem MJs(h:p:=by
 rcases xB q.blk w.heap.size with h1 | h1
 ·exact h1
 ·simp_all):p:=h
theorem MJt(h:p:=by
 cases e:dec.testBit k
 ·rw [e] at q1;exact absurd rfl q1
 ·rfl):p:=h
theorem MJu(h:p:=by show(C.P.funcs[f]?).isSome=true;rw [hf];rfl):p:=h
theorem MJv(h:p:=by show(0:Int)<=(z:Nat)/\((z:Nat):Int)<4;omega):p:=h
theorem MJw(h:p:=by rw [Jm,qG (show ¬ (dn<1∨6<dn) by omega)]):p:=h
theorem MJx(h:p:=by obtain⟨u,h⟩:=aBk h;exact ih _ _ _ _ _ h):p:=h
theorem MJy(h:p:=by exact⟨Al (JP (TQ.2.1 a ha)) Cj,by simp⟩):p:=h
theorem MJz(h:q)(e:q->p:=by intro z;exact⟨rfl,_,⟨1,[(0,RY vals)]⟩,rfl,rfl,z⟩):p:=e h
theorem MJ0(h:p:=by
 split at h <;> cases h
 rename_i e1
 exact⟨_,rfl,qp e1,rfl⟩):p:=h
theorem MJ1(h:p:=by
 show Hp.mk _ (Jw _)=Hp.mk _ (DJ (Jw X.l) _ _)
 rw [<- K5];rfl):p:=h
theorem MJ2(h:p:=by
 rw [hm] at e1
 exact AL _ rfl rfl (Af (by rw [hR,qF e1];rfl))):p:=h
theorem MJ3(h:p:=by
 refine⟨_,ZL hu hs hL hH ho,?_⟩
 simp only [VR,VP]
 simp_all):p:=h
theorem MJ4(h:p:=by
 have g8:(8:Int)<((Ao [] (ds.take k)+0:Nat):Int):=g8
 exact M4):p:=h
theorem MJ5(h:p:=by simpa using h1):p:=h
theorem MJ6(h:p:=by simpa using g2):p:=h
theorem MJ7(h:p:=by show ns.length - (k+1)<ns.length - k;omega):p:=h
theorem MJ8(h:p:=by show ds.length - (i+1)<ds.length - i;omega):p:=h
theorem MJ9(h:p:=by cases e):p:=h
theorem MKA(h:p:=by
 have hn:n<H.next:=by
  exact MDG
 simp only [BU,qM hn]
 exact hq):p:=h
theorem MKB(h:p:=by show 0+out.length<=(out.map Cs.cells).length;simp):p:=h
theorem MKC(h:p:=by exact⟨3,rfl⟩):p:=h
theorem MKD(h:p:=by show(l.length+1) * 32<=140737488355328;omega):p:=h
theorem MKE(h:p:=by show xr.length - (j+1)<xr.length - j;omega):p:=h
theorem MKF(h:p:=by show 0+xs.length<=(xs.map i64).length;simp):p:=h
theorem MKG(h:p:=by decide):p:=h
theorem MKH(h:p:=by show 22+201 * i+201<=22+201 * (i+1);omega):p:=h
theorem MKI(h:p:=by rw [h2];simp [Instr.sameNow,bytes_beq,hk]):p:=h
theorem MKJ(h:q)(e:q->p:=by intro z;exact And.intro (fun q=>absurd q m3) (fun _=>z)):p:=e h
theorem MKK(h:q)(e:q->p:=by intro z;exact And.intro (fun h=>absurd h hz) (fun _=>z)):p:=e h
theorem MKL(h:q)(e:q->p:=by intro z;exact And.intro (fun h=>absurd h F4) (fun _=>z)):p:=e h
theorem MKM(h:q)(e:q->p:=by intro z;exact And.intro (fun _=>z) (fun q=>absurd (show((n / 64 % 2:Nat):Int)=1 by omega) q)):p:=e h
theorem MKN(h:p:=by
 rw [kT] at this
 exact kG this he8):p:=h
theorem MKO(h:p:=by
 obtain⟨p,hp,rfl⟩:=qz.1 Wi
 exact hc _ (Aa H5 (hi p hp))):p:=h
theorem MKP(h:p:=by rw [qD] at hl1;omega):p:=h
theorem MKQ(h:p:=by have:=hG.len.2;omega):p:=h
theorem MKR(h:p:=by exact⟨rfl,rfl,fun _ h=>by simp at h⟩):p:=h
theorem MKS(h:p:=by exact⟨Vi e4,rfl⟩):p:=h
theorem MKT(h:p:=by exact⟨0,MEF,LB rfl (sk) trivial rfl⟩):p:=h
theorem MKU(h:q)(e:q->p:=by intro z;exact And.intro (fun q=>absurd (show((n / 64 % 2:Nat):Int)=1 from q) ME) (fun _=>z)):p:=e h
theorem MKV(h:q)(e:q->p:=by intro z;exact And.intro (fun h=>absurd (show((cur.length:Nat):Int)=0 from h) ME) (fun _=>z)):p:=e h
theorem MKW(h:q)(e:q->p:=by intro z;exact And.intro (fun _=>z) (fun h=>absurd (show(j:Int)<(xr.length:Nat) by omega) h)):p:=e h
theorem MKX(h:p:=by simpa using e):p:=h
theorem MKY(h:p:=by show(2+i+1) * 96<=140737488355328;omega):p:=h
theorem MKZ(h:p:=by rw [hs];omega):p:=h
theorem MKa(h:p:=by exact⟨qL _,by simp,by simp,by simp⟩):p:=h
theorem MKb(h:p:=by exact⟨_,rfl,⟨_,rfl,MEu,AB MBV⟩⟩):p:=h
theorem MKc(h:p:=by exact⟨.normal,_,_,_,_,h1,rfl,h3,h4⟩):p:=h
theorem MKd(h:p:=by exact⟨.goto i,_,_,_,_,h1,rfl,h3,h4⟩):p:=h
theorem MKe(h:p:=by exact⟨.exit i,_,_,_,_,h1,rfl,h3,h4⟩):p:=h
theorem MKf(h:q)(e:q->p:=by intro z;exact⟨((2 * i:Nat):Int),wrap_u64 MBc ME,z⟩):p:=e h
theorem MKg(h:p:=by
 simp only [qC,qJ,Bb] at h2
 omega):p:=h
theorem MKh(h:p:=by grind [Instr.findAsking,Sem.run_bind,Result.andThen_ok]):p:=h
theorem MKi(h:p:=by exact(aBl C hO hG hD (oU C _ _ _ _ _ _ _ (QK h))).holds):p:=h
theorem MKj(h:p:=by exact AL _ rfl rfl (Af (by cases hn:Bb t <;> simp_all))):p:=h
theorem MKk(h:p:=by show(1+1) * 32<=140737488355328;decide):p:=h
theorem MKl(h:p:=by rw [h2];simp [Instr.sameNow,bytes_beq]):p:=h
theorem MKm(h:p:=by exact⟨x,hx,rfl⟩):p:=h
theorem MKn(h:p:=by exact⟨p,hp,rfl⟩):p:=h
theorem MKo(h:p:=by exact⟨by omega,i64 (q:Nat),rA,rfl⟩):p:=h
theorem MKp(h:p:=by
 rw [qQ] at r1
 rw [r1] at Gn
 refine Gn.eq rfl ?_
 exact MBb):p:=h
theorem MKq(h:p:=by simp only [VR];exact⟨#[],rfl,rfl⟩):p:=h
theorem MKr(h:p:=by show(k+1) * 56<=140737488355328;omega):p:=h
theorem MKs(h:p:=by show(i+1) * 32<=140737488355328;omega):p:=h
theorem MKt(h:p:=by exact⟨by rw [Ep];exact hS.1,hS.2⟩):p:=h
theorem MKu(h:p:=by exact⟨_,rfl,by simp only [VR,VP]⟩):p:=h
theorem MKv(h:p:=by exact⟨MBw,rfl,MBW,MC,rfl,trivial⟩):p:=h
theorem MKw(h:p:=by exact⟨MBW,MC,rfl,rfl,rfl,trivial⟩):p:=h
theorem MKx(h:p:=by exact⟨Dt,rfl,Dk hR cs IM _ h2 h3⟩):p:=h
theorem MKy(h:q)(e:q->p:=by intro z;exact⟨_, .inl MFh,z⟩):p:=e h
theorem MKz(h:q)(e:q->p:=by intro z;exact⟨_, .inl MFg,z⟩):p:=e h
theorem MK0(h:q)(e:q->p:=by intro z;exact holdsN_of_vc Tryz.func135 rfl rfl rfl z):p:=e h
theorem MK1(h:q)(e:q->p:=by intro z;exact holdsN_of_vc Tryz.func132 rfl rfl rfl z):p:=e h
theorem MK2(h:q)(e:q->p:=by intro z;exact holdsN_of_vc Tryz.func129 rfl rfl rfl z):p:=e h
theorem MK3(h:p:=by simp only [VP];simp_all):p:=h
theorem MK4(h:p:=by
 rw [qQ] at r1
 rw [r1] at Gn
 refine Gn.eq rfl ?_
 exact MW):p:=h
theorem MK5(h:p:=by
 rw [Gm.Bp _ _ ES] at GA
 exact h.own n p q1 hp Ea GA BF):p:=h
theorem MK6(h:p:=by
 have o6:¬ op=6:=o6
 rw [qM ⟨md,o6⟩] at hR
 exact MAF):p:=h
theorem MK7(h:p:=by
 have Bt:¬ r∈AJ:=kP k2.symm
 rw [qM Bt] at hR
 exact Mx):p:=h
theorem MK8(h:p:=by simp only [];omega):p:=h
theorem MK9(h:p:=by simp [hc]):p:=h
theorem MLA(h:p:=by show 0+0<=0;decide):p:=h
theorem MLB(h:p:=by rw [e]):p:=h
theorem MLC(h:p:=by grind [flat]):p:=h
theorem MLD(h:p:=by exact⟨c,r,rfl⟩):p:=h
theorem MLE(h:p:=by exact⟨_,rfl,rfl,rfl,rfl,rfl,rfl⟩):p:=h
theorem MLF(h:p:=by exact⟨.ret,_,_,_,_,h1,rfl,h3,h4⟩):p:=h
theorem MLG(h:q)(e:q->p:=by intro z;exact⟨BF,trivial,_,_,D5 Em,z⟩):p:=e h
theorem MLH(h:q)(e:q->p:=by intro z;exact⟨((n / 32 % 2:Nat):Int),wrap_i64 (n:=((n / 32 % 2:Nat):Int)) MBc ME,z⟩):p:=e h
theorem MLI(h:p:=by
 split at e <;> cases e
 rename_i e
 simp only [e]
 exact h):p:=h
theorem MLJ(h:p:=by rw [kF,qK,qW h];rfl):p:=h
theorem MLK(h:p:=by
 induction xss with
 | nil=>simp
 | cons c xss ih=>
  grind):p:=h
theorem MLL(h:p:=by
 have:Y9=[]:=qY g2
 subst this
 simp only [EJ] at Js
 grind):p:=h
theorem MLM(h:p:=by
 have o6:¬ op=6:=o6
 rw [qM ⟨md,o6⟩] at hR
 exact Mx):p:=h
end Go.Proofs.YtkegmchjobphdaaGreatDoor
namespace Go.Proofs.YtkegmchjobphdaaGreatDoor.Y
open Go
theorem sk {p:Prop} (h:p:=by(repeat' first | exact trivial | exact rfl | exact⟨rfl,rfl⟩ | exact .inl rfl | refine⟨_,rfl,rfl,rfl,?_⟩ | refine⟨_,_,rfl,?_,?_⟩ | refine⟨_,rfl,?_⟩ | refine And.intro ?_ ?_)):p:=h
inductive PV where
 | bool (b:Bool)
 | int (k:IntKind) (n:Int)
 | str (s:List UInt8)
 | J6
 | fp (cs:List PV)
 | Ad
 | Dh (xs:List PV)
 | Ai (s:Nat) (xss:List (List PV))
 | Sw
 | fn (f:Fn) (first cap:List PV)
 | NK
 | iface (t:TypeId) (v:PV)
 | nilIface
 | agg (cs:List PV)
inductive AV where
 | p (v:PV)
 | ptr (n i f:Nat)
 | Lx (n i f:Nat)
 | sl (n s off len:Nat)
 | mp (n:Nat)
 | fn (f:Fn) (first cap:List AV)
 | iface (t:TypeId) (v:AV)
 | agg (cs:List AV)
 | GG (vs:List AV)
 | LC
 | junk
def CZ:Value->Bool
 | .agg _ | .tuple _=>false
 | _=>true
def Seg (arr:List Value) (o:Nat) (us:List Value):Prop:=∃ pre post,arr=pre++us++post/\pre.length=o/\∀ u∈us,CZ u=true
abbrev FW:=Nat->Option (List Value)
def mZ:Fn->Bool
 | .yield _=>false
 | _=>true
mutual
def VP (fz:FW):PV->Value->Prop
 | .bool b,v'=>v'=.bool b
 | .int k n,v'=>v'=.int k n
 | .str s,v'=>v'=.string ⟨⟨s⟩⟩
 | .J6,v'=>v'=.pointer none
 | .fp cs,v'=>∃ b o arr us,v'=.pointer (some ⟨b,o,none⟩)/\fz b=some arr/\Ey fz cs us/\Seg arr o us
 | .Ad,v'=>v'=.slice none 0 0
 | .Dh xs,v'=>(xs=[]/\∃ a c,v'=.slice a 0 c)∨∃ b o c arr us,v'=.slice (some ⟨b,o,none⟩) xs.length c/\xs.length<=c/\fz b=some arr/\Ey fz xs us/\Seg arr o us
 | .Ai s xss,v'=>(xss=[]/\∃ a c,v'=.slice a 0 c)∨∃ b o c arr us,v'=.slice (some ⟨b,o,none⟩) xss.length c/\xss.length<=c/\fz b=some arr/\Sz fz s xss us/\Seg arr o us
 | .Sw,v'=>v'=.map none
 | .fn f first cap,v'=>mZ f=true/\∃ Ec FZ,v'=.func f Ec FZ/\Ey fz first Ec.toList/\Ey fz cap FZ.toList
 | .NK,v'=>v'=.nilFunc
 | .iface t v,v'=>∃ u,v'=.iface t u/\VP fz v u
 | .nilIface,v'=>v'=.nilIface
 | .agg cs,v'=>∃ Dt,v'=.agg Dt/\Ey fz cs Dt.toList
def Ey (fz:FW):List PV->List Value->Prop
 | [],us=>us=[]
 | x::xs,us=>∃ u Rk,us=u::Rk/\VP fz x u/\Ey fz xs Rk
def Sz (fz:FW) (s:Nat):List (List PV)->List Value->Prop
 | [],us=>us=[]
 | cs::xss,us=>∃ us1 us2,us=us1++us2/\us1.length=s/\Ey fz cs us1/\Sz fz s xss us2
end
def FW.le (a b:FW):Prop:=∀ n x,a n=some x->b n=some x
theorem FW.le_refl (a:FW):a.le a:=fun _ _ h=>h
theorem FW.le_trans {a b c:FW} (h:a.le b) (k:b.le c):a.le c:=fun n x e=>k n x (h n x e)
mutual
theorem OO {a b:FW} (h:a.le b):∀ (v:PV) (v':Value),VP a v v'->VP b v v'
 | .bool _,_,hv=>by trivial
 | .int _ _,_,hv=>by trivial
 | .str _,_,hv=>by trivial
 | .J6,_,hv=>by trivial
 | .fp cs,_,hv=>by
  simp only [VP] at hv ⊢
  obtain⟨b',o,arr,us,h1,h2,h3,h4⟩:=hv
  exact⟨b',o,arr,us,h1,h _ _ h2,Kq h cs us h3,h4⟩
 | .Ad,_,hv=>MDL
 | .Dh xs,_,hv=>by
  simp only [VP] at hv ⊢
  rcases hv with hv | ⟨b',o,c,arr,us,h1,hc,h2,h3,h4⟩
  ·exact .inl hv
  ·exact .inr ⟨b',o,c,arr,us,h1,hc,h _ _ h2,Kq h xs us h3,h4⟩
 | .Ai s xss,_,hv=>by
  simp only [VP] at hv ⊢
  rcases hv with hv | ⟨b',o,c,arr,us,h1,hc,h2,h3,h4⟩
  ·exact .inl hv
  ·exact .inr ⟨b',o,c,arr,us,h1,hc,h _ _ h2,fw h s xss us h3,h4⟩
 | .Sw,_,hv=>MDL
 | .fn _ fs cs,_,hv=>by
  simp only [VP] at hv ⊢
  obtain⟨h0,bf,Dt,h1,h2,h3⟩:=hv
  exact⟨h0,bf,Dt,h1,Kq h fs _ h2,Kq h cs _ h3⟩
 | .NK,_,hv=>MDL
 | .iface _ v,_,hv=>by
  simp only [VP] at hv ⊢
  obtain⟨u,h1,h2⟩:=hv
  exact⟨u,h1,OO h v u h2⟩
 | .nilIface,_,hv=>MDL
 | .agg cs,_,hv=>by
  simp only [VP] at hv ⊢
  obtain⟨u,h1,h2⟩:=hv
  exact⟨u,h1,Kq h cs _ h2⟩
theorem Kq {a b:FW} (h:a.le b):∀ (v:List PV) (v':List Value),Ey a v v'->Ey b v v'
 | [],_,hv=>by trivial
 | x::xs,_,hv=>by
  simp only [Ey] at hv ⊢
  obtain⟨u,us,h1,h2,h3⟩:=hv
  exact⟨u,us,h1,OO h x u h2,Kq h xs us h3⟩
theorem fw {a b:FW} (h:a.le b) (s:Nat):∀ (v:List (List PV)) (v':List Value),Sz a s v v'->Sz b s v v'
 | [],_,hv=>by trivial
 | x::xs,_,hv=>by
  simp only [Sz] at hv ⊢
  obtain⟨u,us,h1,hl,h2,h3⟩:=hv
  exact⟨u,us,h1,hl,Kq h x u h2,fw h s xs us h3⟩
end
structure Pl where
 blk:Nat
 s:Nat
 tc:Nat
 nl:Bool
structure Gm where
 nm:Nat->Option Pl
 fz:FW
structure Gm.le (a b:Gm):Prop where
 nm:∀ n q,a.nm n=some q->b.nm n=some q
 fz:a.fz.le b.fz
theorem Gm.le_refl (a:Gm):a.le a:=⟨fun _ _ h=>h,FW.le_refl _⟩
theorem Gm.le_trans {a b c:Gm} (h:a.le b) (k:b.le c):a.le c:=⟨fun n q e=>k.nm n q (h.nm n q e),FW.le_trans h.fz k.fz⟩
def FR (Γ:Gm):Fn->Fn->Prop
 | .yield l,f'=>∃ q,Γ.nm l=some q/\f'=.yield q.blk
 | f,f'=>f'=f
def uY (Γ:Gm) (n i f:Nat) (v':Value):Prop:=∃ q,Γ.nm n=some q/\q.nl=false/\v'=.pointer (some ⟨q.blk,i * q.s+f,none⟩)
def SlR (Γ : Gm) (n s off len : Nat) (v' : Value) : Prop := ∃ q, Γ.nm n = some q /\ q.s = s /\
  ((q.nl = true /\ off = 0 /\ len = 0 /\ v' = .slice none 0 0) ∨
   (q.nl = false /\ off + len <= q.tc /\ ∃ o, v' = .slice (some ⟨q.blk, o, none⟩) len (q.tc - off) /\ (o = off * q.s ∨ off = q.tc)))
mutual
def VR (Γ:Gm):AV->Value->Prop
 | .p v,v'=>VP Γ.fz v v'
 | .ptr n i f,v'=>uY Γ n i f v'
 | .Lx n i f,v'=>uY Γ n i f v'
 | .sl n s off len,v'=>SlR Γ n s off len v'
 | .mp n,v'=>∃ q,Γ.nm n=some q/\v'=.map (some q.blk)
 | .fn f first cap,v'=>∃ f' Ec FZ,v'=.func f' Ec FZ/\FR Γ f f'/\CX Γ first Ec.toList/\CX Γ cap FZ.toList
 | .iface t v,v'=>∃ u,v'=.iface t u/\VR Γ v u
 | .agg cs,v'=>∃ Dt,v'=.agg Dt/\CX Γ cs Dt.toList
 | .GG vs,v'=>∃ vs',v'=.tuple vs'/\CX Γ vs vs'.toList
 | .LC,v'=>∃ a,v'=.pointer a
 | .junk,_=>True
def CX (Γ:Gm):List AV->List Value->Prop
 | [],us=>us=[]
 | x::xs,us=>∃ u Rk,us=u::Rk/\VR Γ x u/\CX Γ xs Rk
end
theorem aJ4 {a b:Gm} (h:a.le b) {f f':Fn} (hf:FR a f f'):FR b f f':=by
 cases f <;> simp only [FR] at hf ⊢ <;> first | exact hf | (obtain⟨q,h1,h2⟩:=hf;exact⟨q,h.nm _ _ h1,h2⟩)
theorem gB {a b:Gm} (h:a.le b) {n i f:Nat} {v:Value} (hv:uY a n i f v):uY b n i f v:=by
 obtain⟨q,h1,h2⟩:=hv;exact⟨q,h.nm _ _ h1,h2⟩
theorem aG1 {a b:Gm} (h:a.le b) {n s i f:Nat} {v:Value} (hv:SlR a n s i f v):SlR b n s i f v:=by
 obtain⟨q,h1,h2⟩:=hv;exact⟨q,h.nm _ _ h1,h2⟩
mutual
theorem EF {a b:Gm} (h:a.le b):∀ (v:AV) (v':Value),VR a v v'->VR b v v'
 | .p v,v',hv=>by simp only [VR] at hv ⊢;exact OO h.fz v v' hv
 | .ptr _ _ _,_,hv=>by grind [VR,gB]
 | .Lx _ _ _,_,hv=>by grind [VR,gB]
 | .sl _ _ _ _,_,hv=>by grind [VR,aG1]
 | .mp _,_,hv=>by
  simp only [VR] at hv ⊢
  obtain⟨q,h1,h2⟩:=hv;exact⟨q,h.nm _ _ h1,h2⟩
 | .fn _ fs cs,_,hv=>by
  simp only [VR] at hv ⊢
  obtain⟨f',bf,Dt,h1,h2,h3,h4⟩:=hv
  exact⟨f',bf,Dt,h1,aJ4 h h2,Cw h fs _ h3,Cw h cs _ h4⟩
 | .iface _ v,_,hv=>by
  simp only [VR] at hv ⊢
  obtain⟨u,h1,h2⟩:=hv
  exact⟨u,h1,EF h v u h2⟩
 | .agg cs,_,hv=>by
  exact MIM
 | .GG cs,_,hv=>by
  exact MIM
 | .LC,_,hv=>MDL
 | .junk,_,_=>by simp only [VR]
theorem Cw {a b:Gm} (h:a.le b):∀ (v:List AV) (v':List Value),CX a v v'->CX b v v'
 | [],_,hv=>by trivial
 | x::xs,_,hv=>by
  simp only [CX] at hv ⊢
  obtain⟨u,us,h1,h2,h3⟩:=hv
  exact⟨u,us,h1,EF h x u h2,Cw h xs us h3⟩
end
theorem BH {Γ:Gm}:∀ {l:List AV} {l':List Value},CX Γ l l'->l'.length=l.length
 | [],_,h=>by simp only [CX] at h;rw [h];rfl
 | v::vs,_,h=>by
  simp only [CX] at h
  obtain⟨u,us,rfl,_,h3⟩:=h
  simp [BH h3]
theorem Cu {fz:FW}:∀ {l:List PV} {l':List Value},Ey fz l l'->l'.length=l.length
 | [],_,h=>by simp only [Ey] at h;rw [h];rfl
 | v::vs,_,h=>by
  simp only [Ey] at h
  obtain⟨u,us,rfl,_,h3⟩:=h
  simp [Cu h3]
theorem OY {Γ:Gm}:∀ {l:List AV} {l':List Value},CX Γ l l'->∀ {i:Nat} {v:AV},l[i]?=some v->∃ v',l'[i]?=some v'/\VR Γ v v'
 | [],_,_,i,v,hi=>by simp at hi
 | x::xs,_,h,i,v,hi=>by
  simp only [CX] at h
  obtain⟨u,us,rfl,h2,h3⟩:=h
  cases i with
  | zero=>simp at hi;subst hi;exact⟨u,by simp,h2⟩
  | succ i=>simp at hi;obtain⟨v',h4,h5⟩:=OY h3 hi;exact⟨v',MHF,h5⟩
theorem aCa {fz:FW}:∀ {l:List PV} {l':List Value},Ey fz l l'->∀ {i:Nat} {v:PV},l[i]?=some v->∃ v',l'[i]?=some v'/\VP fz v v'
 | [],_,_,i,v,hi=>by simp at hi
 | x::xs,_,h,i,v,hi=>by
  simp only [Ey] at h
  obtain⟨u,us,rfl,h2,h3⟩:=h
  cases i with
  | zero=>simp at hi;subst hi;exact⟨u,by simp,h2⟩
  | succ i=>simp at hi;obtain⟨v',h4,h5⟩:=aCa h3 hi;exact⟨v',MHF,h5⟩
theorem aG0 {Γ:Gm}:∀ {l:List AV} {l':List Value},l'.length=l.length->(∀ (i:Nat) (v:AV),l[i]?=some v->∃ v',l'[i]?=some v'/\VR Γ v v')->CX Γ l l'
 | [],l',hl,_=>by grind [CX]
 | x::xs,[],hl,_=>by simp at hl
 | x::xs,y::ys,hl,h=>by
  simp only [CX]
  refine⟨y,ys,rfl,?_,aG0 (by simpa using hl) fun i v hi=>?_⟩
  ·obtain⟨v',h1,h2⟩:=h 0 x (by simp)
   simp_all
  ·have:=h (i+1) v (by simpa using hi)
   exact MHw
theorem GY {Γ:Gm} {a b:List AV} {a' b':List Value} (h:CX Γ a a') (k:CX Γ b b'):CX Γ (a++b) (a'++b'):=by
 induction a generalizing a' with
 | nil=>grind [CX]
 | cons x xs ih=>
  simp only [CX] at h
  obtain⟨u,us,rfl,h2,h3⟩:=h
  simp only [kD,CX]
  grind
theorem Ol {fz:FW} {a b:List PV} {a' b':List Value} (h:Ey fz a a') (k:Ey fz b b'):Ey fz (a++b) (a'++b'):=by
 induction a generalizing a' with
 | nil=>grind [Ey]
 | cons x xs ih=>
  simp only [Ey] at h
  obtain⟨u,us,rfl,h2,h3⟩:=h
  simp only [kD,Ey]
  grind
theorem IZ {Γ:Gm}:∀ {l:List AV} {l':List Value} (n:Nat),CX Γ l l'->CX Γ (l.take n) (l'.take n)
 | _,_,0,_=>by simp [CX]
 | [],_,n+1,h=>by grind [CX]
 | x::xs,_,n+1,h=>by
  simp only [CX] at h
  obtain⟨u,us,rfl,h2,h3⟩:=h
  simp only [jW,CX]
  exact⟨u,_,rfl,h2,IZ n h3⟩
theorem Ji {Γ:Gm}:∀ {l:List AV} {l':List Value} (n:Nat),CX Γ l l'->CX Γ (l.drop n) (l'.drop n)
 | _,_,0,h=>by simpa using h
 | [],_,n+1,h=>by grind [CX]
 | x::xs,_,n+1,h=>by
  simp only [CX] at h
  obtain⟨u,us,rfl,h2,h3⟩:=h
  simpa using Ji n h3
theorem HY {fz:FW}:∀ {l:List PV} {l':List Value} (n:Nat),Ey fz l l'->Ey fz (l.take n) (l'.take n)
 | _,_,0,_=>by simp [Ey]
 | [],_,n+1,h=>by grind [Ey]
 | x::xs,_,n+1,h=>by
  simp only [Ey] at h
  obtain⟨u,us,rfl,h2,h3⟩:=h
  simp only [jW,Ey]
  exact⟨u,_,rfl,h2,HY n h3⟩
theorem Ia {fz:FW}:∀ {l:List PV} {l':List Value} (n:Nat),Ey fz l l'->Ey fz (l.drop n) (l'.drop n)
 | _,_,0,h=>by simpa using h
 | [],_,n+1,h=>by grind [Ey]
 | x::xs,_,n+1,h=>by
  simp only [Ey] at h
  obtain⟨u,us,rfl,h2,h3⟩:=h
  simpa using Ia n h3
theorem CJ {Γ:Gm}:∀ {l:List PV} {l':List Value},CX Γ (l.map .p) l' ↔ Ey Γ.fz l l'
 | [],_=>by simp [CX,Ey]
 | x::xs,_=>by
  simp only [kI,CX,Ey,VR]
  constructor
  ·rintro⟨u,us,h1,h2,h3⟩;exact⟨u,us,h1,h2,CJ.1 h3⟩
  ·rintro⟨u,us,h1,h2,h3⟩;exact⟨u,us,h1,h2,CJ.2 h3⟩
theorem FU {fz:FW} {s:Nat}:∀ {l:List (List PV)} {l':List Value},Sz fz s l l' ↔ (Ey fz l.flatten l'/\∀ cs∈l,cs.length=s)
 | [],l'=>by simp [Sz,Ey]
 | cs::l,l'=>by
  simp only [Sz,xI]
  constructor
  ·rintro⟨us1,us2,rfl,h1,h2,h3⟩
   obtain⟨h4,h5⟩:=FU.1 h3
   refine⟨Ol h2 h4,fun c hc=>?_⟩
   rcases qw.1 hc with rfl | hc
   ·grind [Cu]
   ·exact h5 c hc
  ·rintro⟨h1,h2⟩
   have hl:=h2 cs MBV
   have ha:Ey fz cs (l'.take cs.length):=by simpa using HY cs.length h1
   have hb:Ey fz l.flatten (l'.drop cs.length):=by simpa using Ia cs.length h1
   exact⟨_,_,(kE cs.length l').symm,by grind [Cu],ha,FU.2 ⟨hb,fun c hc=>h2 c MK9⟩⟩
theorem XY (Γ:Gm) (v:Value):VR Γ .junk v:=by simp only [VR]
theorem IQ (Γ:Gm):VR Γ (.GG []) undef:=MKq
theorem J8 {Γ:Gm} {α:Type} {f:α->AV} {g:α->Value} (h:∀ x,VR Γ (f x) (g x)):∀ l:List α,CX Γ (l.map f) (l.map g)
 | []=>rfl
 | x::l=>by
  simp only [kI,CX]
  exact⟨_,_,rfl,h x,J8 h l⟩
mutual
def Ir:Value->Option PV
 | .bool b=>some (.bool b)
 | .int k n=>some (.int k n)
 | .string ⟨⟨s⟩⟩=>some (.str s)
 | .pointer none=>some .J6
 | .slice none 0 0=>some .Ad
 | .map none=>some .Sw
 | .func (.func f) ⟨fs⟩ ⟨cs⟩=>match aBJ fs,aBJ cs with
  | some a,some b=>some (.fn (.func f) a b)
  | _,_=>none
 | .nilFunc=>some .NK
 | .iface t v=>match Ir v with
  | some a=>some (.iface t a)
  | none=>none
 | .nilIface=>some .nilIface
 | .agg ⟨cs⟩=>match aBJ cs with
  | some a=>some (.agg a)
  | none=>none
 | _=>none
def aBJ:List Value->Option (List PV)
 | []=>some []
 | v::vs=>match Ir v,aBJ vs with
  | some a,some b=>some (a::b)
  | _,_=>none
end
mutual
theorem Yz (fz:FW):∀ (v:Value) (x:PV),Ir v=some x->VP fz x v
 | .bool _,x,h=>by grind [Ir,VP]
 | .int _ _,x,h=>by grind [Ir,VP]
 | .float _ _,x,h=>by simp [Ir] at h
 | .complex _ _ _,x,h=>by simp [Ir] at h
 | .string ⟨⟨s⟩⟩,x,h=>by grind [Ir,VP]
 | .pointer none,x,h=>by grind [Ir,VP]
 | .pointer (some _),x,h=>by simp [Ir] at h
 | .slice a n c,x,h=>by
  grind [Ir,VP]
 | .map none,x,h=>by grind [Ir,VP]
 | .map (some _),x,h=>by simp [Ir] at h
 | .chan _,x,h=>by simp [Ir] at h
 | .func f ⟨fs⟩ ⟨cs⟩,x,h=>by
  cases f <;> simp only [Ir,reduceCtorEq] at h
  split at h
  ·rename_i a b ha hb
   simp only [qo] at h
   subst h
   simp only [VP]
   exact⟨rfl,⟨fs⟩,⟨cs⟩,rfl,Xa fz fs a ha,Xa fz cs b hb⟩
  ·cases h
 | .nilFunc,x,h=>by grind [Ir,VP]
 | .iface t v,x,h=>by
  simp only [Ir] at h
  split at h
  ·rename_i a ha
   simp only [qo] at h
   subst h
   simp only [VP]
   exact⟨v,rfl,Yz fz v a ha⟩
  ·cases h
 | .nilIface,x,h=>by grind [Ir,VP]
 | .agg ⟨cs⟩,x,h=>by
  simp only [Ir] at h
  split at h
  ·rename_i a ha
   simp only [qo] at h
   subst h
   simp only [VP]
   exact⟨⟨cs⟩,rfl,Xa fz cs a ha⟩
  ·cases h
 | .tuple _,x,h=>by simp [Ir] at h
theorem Xa (fz:FW):∀ (v:List Value) (x:List PV),aBJ v=some x->Ey fz x v
 | [],x,h=>by grind [aBJ,Ey]
 | v::vs,x,h=>by
  simp only [aBJ] at h
  split at h
  ·rename_i a b ha hb
   simp only [qo] at h
   subst h
   simp only [Ey]
   exact⟨v,vs,rfl,Yz fz v a ha,Xa fz vs b hb⟩
  ·cases h
end
def Wx:List AV->Option (List PV)
 | []=>some []
 | .p v::r=>match Wx r with
  | some l=>some (v::l)
  | none=>none
 | _::_=>none
theorem KG:∀ {l:List AV} {r:List PV},Wx l=some r->l=r.map .p
 | [],r,h=>by simp only [Wx,qo] at h;subst h;rfl
 | x::l,r,h=>by
  cases x <;> simp only [Wx,reduceCtorEq] at h
  split at h
  ·rename_i l' hl
   simp only [qo] at h
   subst h
   rw [KG hl];rfl
  ·cases h
def fV (cs:List AV):AV:=match Wx cs with
 | some ps=>.p (.agg ps)
 | none=>.agg cs
theorem Tg {Γ:Gm} {cs:List AV} {v':Value}:VR Γ (fV cs) v' ↔ VR Γ (.agg cs) v':=by
 unfold fV
 split
 ·rename_i ps h
  rw [KG h]
  simp only [VR,VP]
  constructor
  ·rintro⟨Dt,h1,h2⟩;exact⟨Dt,h1,CJ.2 h2⟩
  ·rintro⟨Dt,h1,h2⟩;exact⟨Dt,h1,CJ.1 h2⟩
 ·exact Iff.rfl
def mkIf (t:TypeId):AV->AV
 | .p v=>.p (.iface t v)
 | v=>.iface t v
theorem aJx {Γ:Gm} {t:TypeId} {v:AV} {v':Value}:VR Γ (mkIf t v) v' ↔ VR Γ (.iface t v) v':=by
 cases v <;> simp only [mkIf,VR,VP]
def aJ3 (f:Fn) (a b:List AV):AV:=match mZ f,Wx a,Wx b with
 | true,some a,some b=>.p (.fn f a b)
 | _,_,_=>.fn f a b
theorem tq {Γ:Gm} {f f':Fn} (h:mZ f=true):FR Γ f f' ↔ f'=f:=by cases f <;> simp_all [mZ,FR]
theorem aJy {Γ:Gm} {f:Fn} {a b:List AV} {v':Value}:VR Γ (aJ3 f a b) v' ↔ VR Γ (.fn f a b) v':=by
 unfold aJ3
 split
 ·rename_i a' b' hf ha hb
  rw [KG ha,KG hb]
  simp only [VR,VP]
  constructor
  ·rintro⟨_,bf,Dt,h1,h2,h3⟩;exact⟨f,bf,Dt,h1,(tq hf).2 rfl,CJ.2 h2,CJ.2 h3⟩
  ·rintro⟨f',bf,Dt,h1,hr,h2,h3⟩;rw [tq hf] at hr;subst hr;exact⟨hf,bf,Dt,h1,CJ.1 h2,CJ.1 h3⟩
 ·exact Iff.rfl
inductive Cn where
 | bx (cs:List AV)
 | pu (xs:List PV)
 | GN (xss:List (List PV))
 | mx (xs:List AV)
 | Gw (xss:List (List AV))
 | lp (st:LoopState) (E5:Option Code) (lim N:Nat) (σ:Nat->AV) (params:List Tmp) (assign body:Code) (dn:Nat)
 | df
 | ms (es:List (List UInt8 × PV))
 | mk (zs:List PV) (es:List (List PV × PV))
 | it (s:List UInt8) (i:Nat)
structure Ag where
 t:TypeId
 fr:Bool
 c:Cn
structure Hp where
 next:Nat
 l:List (Nat × Ag)
def Aq:List (Nat × Ag)->Nat->Option Ag
 | [],_=>none
 | (k,o)::r,n=>match Nat.beq k n with
  | true=>some o
  | false=>Aq r n
def DJ:List (Nat × Ag)->Nat->Ag->List (Nat × Ag)
 | [],_,_=>[]
 | (k,o)::r,n,x=>match Nat.beq k n with
  | true=>(k,x)::r
  | false=>(k,o)::DJ r n x
def HV:List (Nat × Ag)->Nat->List (Nat × Ag)
 | [],_=>[]
 | (k,o)::r,n=>match Nat.beq k n with
  | true=>HV r n
  | false=>(k,o)::HV r n
theorem gD (n:Nat):Nat.beq n n=true:=by simp
theorem Ll {n m:Nat} (h:n ≠ m):Nat.beq n m=false:=by
 rw [xZ];simp_all
theorem D7 {n:Nat} {o:Ag} {l:List (Nat × Ag)}:Aq ((n,o)::l) n=some o:=by simp [Aq]
theorem Eb {n m:Nat} {o:Ag} {l:List (Nat × Ag)} (h:n ≠ m):Aq ((n,o)::l) m=Aq l m:=by
 simp only [Aq,Ll h]
theorem QB {l:List (Nat × Ag)} {n:Nat} {o x:Ag} (h:Aq l n=some o):Aq (DJ l n x) n=some x:=by
 induction l with
 | nil=>simp [Aq] at h
 | cons p r ih=>
  grind [DJ,Aq]
theorem O3 {l:List (Nat × Ag)} {n m:Nat} {x:Ag} (h:m ≠ n):Aq (DJ l n x) m=Aq l m:=by
 induction l with
 | nil=>rfl
 | cons p r ih=>
  obtain⟨k,y⟩:=p
  by_cases hk:k=n
  ·subst hk
   simp only [DJ,gD]
   rw [Eb (vW h),Eb (vW h)]
  grind [DJ,Ll,Aq]
theorem Bc {l:List (Nat × Ag)} {n m:Nat} {o:Ag}:Aq (HV l n) m=some o ↔ m ≠ n/\Aq l m=some o:=by
 induction l with
 | nil=>simp [HV,Aq]
 | cons p r ih=>
  grind [HV,Ll,Aq]
theorem Yc {l:List (Nat × Ag)} {n:Nat} {o:Ag} (h:Aq l n=some o):(n,o)∈l:=by
 induction l with
 | nil=>simp [Aq] at h
 | cons p r ih=>
  grind [D7,Eb]
structure Cx where
 P:Program
 gt:List (Nat × List PV)
def mY:List (Nat × List PV)->Nat->Option (List PV)
 | [],_=>none
 | (k,o)::r,n=>match Nat.beq k n with
  | true=>some o
  | false=>mY r n
def szOf (P:Program) (t:TypeId):Option Nat:=(P.info? t).map (·.size)
def aMa (fz:Nat × Nat) (n:Nat):Prop:=fz.2<=fz.1∨n<=fz.1
def flat:Cn->List AV
 | .bx cs=>cs
 | .pu xs=>xs.map .p
 | .GN xss=>xss.flatten.map .p
 | .mx xs=>xs
 | .Gw xss=>xss.flatten
 | _=>[]
def DN (s tc:Nat):Cn->Prop
 | .bx cs=>cs.length=s/\tc=1
 | .pu _=>s=1
 | .GN xss=>∀ cs∈xss,cs.length=s
 | .mx _=>s=1
 | .Gw xss=>∀ cs∈xss,cs.length=s
 | _=>False
def NM:Cn->Prop
 | .pu xs=>xs=[]
 | .GN xs=>xs=[]
 | .mx xs=>xs=[]
 | .Gw xs=>xs=[]
 | _=>False
def Gm.cut (Γ:Gm) (l:Nat):Gm:=⟨fun m=>match Nat.blt m l with | true=>Γ.nm m | false=>none,Γ.fz⟩
theorem Gm.aMm (Γ:Gm) (l:Nat):(Γ.cut l).le Γ:=by
 refine⟨fun n q h=>?_,FW.le_refl _⟩
 grind [Gm.cut]
theorem Gm.Yp {a b:Gm} (h:a.le b) (l:Nat):(a.cut l).le (b.cut l):=by
 refine⟨fun n q h1=>?_,h.fz⟩
 simp only [Gm.cut] at h1 ⊢
 split at h1
 ·exact h.nm _ _ h1
 ·cases h1
def ZE (P:Program) (Γ:Gm) (w:World) (q:Pl) (o:Ag):Prop:=
 ∃ us rest z,w.heap[q.blk]?=some (.cells ⟨us++rest⟩ o.t z)/\aMa z (us++rest).length/\szOf P o.t=some q.s/\0<q.s/\(us++rest).length=q.tc * q.s /\
  CX Γ (flat o.c) us/\(∀ u∈us,CZ u=true)/\DN q.s q.tc o.c/\(o.fr=true->Γ.fz q.blk=some (us++rest))
def BV:Cn->Bool
 | .lp ..=>false
 | .df=>false
 | .ms _=>false
 | .mk _ _=>false
 | .it _ _=>false
 | _=>true
def Q7 (fz:FW):List (List UInt8 × PV)->List MapEntry->Prop
 | [],us=>us=[]
 | (k,x)::r,us=>∃ e Rk,us=e::Rk/\e.key=.string ⟨⟨k⟩⟩/\VP fz x e.val/\Q7 fz r Rk
theorem gF {a b:FW} (h:a.le b):∀ {es:List (List UInt8 × PV)} {us:List MapEntry},Q7 a es us->Q7 b es us
 | [],_,he=>he
 | (k,x)::r,_,he=>by
  simp only [Q7] at he ⊢
  obtain⟨e,Rk,h1,h2,h3,h4⟩:=he
  exact⟨e,Rk,h1,h2,OO h x _ h3,gF h h4⟩
def sameKind:PV->PV->Bool
 | .int k _, .int k' _=>k == k'
 | .str _, .str _=>true
 | .bool _, .bool _=>true
 | _,_=>false
def Aw:List PV->List PV->Bool
 | [],[]=>true
 | x::xs,y::ys=>sameKind x y && Aw xs ys
 | _,_=>false
def real:PV->Value
 | .int k n=>.int k n
 | .str s=>.string ⟨⟨s⟩⟩
 | .bool b=>.bool b
 | _=>undef
def U8 (fz:FW) (zs:List PV):List (List PV × PV)->List MapEntry->Prop
 | [],us=>us=[]
 | (k,x)::r,us=>∃ e Rk,us=e::Rk/\(Aw zs k=true/\e.key=.agg ⟨k.map real⟩)/\VP fz x e.val/\U8 fz zs r Rk
theorem gG {a b:FW} {zs:List PV} (h:a.le b):∀ {es:List (List PV × PV)} {us:List MapEntry},U8 a zs es us->U8 b zs es us
 | [],_,he=>he
 | (k,x)::r,_,he=>by
  simp only [U8] at he ⊢
  obtain⟨e,Rk,h1,h2,h3,h4⟩:=he
  exact⟨e,Rk,h1,h2,OO h x _ h3,gG h h4⟩
def Cv (P:Program) (Γ:Gm) (w:World) (q:Pl) (o:Ag):Prop:=
 match o.c with
 | .lp st E5 lim N σ ps Fq bd dn=>q.nl=false/\o.fr=false/\∃ fn tm qd,(P.funcs[fn]?).isSome=true/\w.heap[q.blk]?=some (.loop { state:=st,pending:=E5,fn:=fn,tmps:=tm,params:=⟨ps⟩,assign:=Fq,body:=bd,defers:=qd.blk })/\(tm.size=N/\∀ t,VR (Γ.cut lim) (σ t) (tm.getD t undef))/\Γ.nm dn=some qd
 | .df=>q.nl=false/\o.fr=false/\w.heap[q.blk]?=some (.deferred (some []))
 | .ms es=>q.nl=false/\o.fr=false/\∃ us k,w.heap[q.blk]?=some (.map us k)/\Q7 Γ.fz es us.toList
 | .mk zs es=>q.nl=false/\o.fr=false/\∃ us k,w.heap[q.blk]?=some (.map us k)/\U8 Γ.fz zs es us.toList
 | .it s i=>q.nl=false/\o.fr=false/\w.heap[q.blk]?=some (.stringIter ⟨⟨s⟩⟩ i)
 | c=>(q.nl=true/\NM c/\DN q.s q.tc c)∨(q.nl=false/\ZE P Γ w q o)
theorem BA {P:Program} {Γ:Gm} {w:World} {q:Pl} {o:Ag} (h:BV o.c=true):Cv P Γ w q o ↔ ((q.nl=true/\NM o.c/\DN q.s q.tc o.c)∨(q.nl=false/\ZE P Γ w q o)):=by
 grind [Cv,BV]
def RJ (Γ:Gm) (H:Hp) (k:Nat):Prop:=∃ n o q,Aq H.l n=some o/\o.fr=false/\Γ.nm n=some q/\q.nl=false/\q.blk=k
def ZT (fz:FW) (g:Nat) (cs:List PV):Prop:=VP fz (.fp cs) (.pointer (some ⟨g,0,none⟩))/\∃ arr,fz g=some arr/\arr.length=cs.length
theorem ZT.mono {a b:FW} (h:a.le b) {g:Nat} {cs:List PV} (hv:ZT a g cs):ZT b g cs:=by
 obtain⟨h1,arr,h2,h3⟩:=hv
 exact⟨OO h _ _ h1,arr,h _ _ h2,h3⟩
structure R (C:Cx) (Γ:Gm) (H:Hp) (w:World):Prop where
 Jq:∀ g cs,mY C.gt g=some cs->ZT Γ.fz g cs
 fresh:∀ n,H.next<=n->Γ.nm n=none
 Io:∀ b arr,Γ.fz b=some arr->∃ t z,w.heap[b]?=some (.cells ⟨arr⟩ t z)
 Dz:∀ n o,Aq H.l n=some o->∃ q,Γ.nm n=some q/\Cv C.P Γ w q o
 own:∀ n o q,Aq H.l n=some o->o.fr=false->Γ.nm n=some q->q.nl=false->Γ.fz q.blk=none
 apart:∀ n o m p q q',Aq H.l n=some o->Aq H.l m=some p->n ≠ m->Γ.nm n=some q->Γ.nm m=some q'->o.fr=false->q.nl=false->q'.nl=false->q.blk ≠ q'.blk
structure Tr (Γ:Gm) (H:Hp) (w:World) (BU:Gm) (H':Hp) (w':World):Prop where
 os:w'.os=w.os
 tape:w'.tape=w.tape
 output:w'.output=w.output
 size:w.heap.size<=w'.heap.size
 kept:∀ k,k<w.heap.size->¬ RJ Γ H k->w'.heap[k]?=w.heap[k]?
 Wn:∀ k,RJ BU H' k->w.heap.size<=k∨RJ Γ H k
 fz:Γ.fz.le BU.fz
 Lh:∀ k a,BU.fz k=some a->Γ.fz k=some a∨w.heap.size<=k∨RJ Γ H k
theorem Tr.refl (Γ:Gm) (H:Hp) (w:World):Tr Γ H w Γ H w:=MDY
theorem Tr.trans {Γ Cq YT:Gm} {H H1 H2:Hp} {w w1 w2:World} (h:Tr Γ H w Cq H1 w1) (k:Tr Cq H1 w1 YT H2 w2):Tr Γ H w YT H2 w2:=by
 refine⟨k.os.trans h.os,k.tape.trans h.tape,k.output.trans h.output,kG h.size k.size,fun j hj hn=>?_,fun j hj=>?_,FW.le_trans h.fz k.fz,fun j a hj=>?_⟩
 ·rw [k.kept j (xQ hj h.size) (fun ho=>?_),h.kept j hj hn]
  rcases h.Wn j ho with h1 | h1
  ·omega
  ·exact hn h1
 ·rcases k.Wn j hj with h1 | h1
  ·exact .inl (kG h.size h1)
  ·exact h.Wn j h1
 ·rcases k.Lh j a hj with h1 | h1 | h1
  ·exact h.Lh j a h1
  ·exact .inr (.inl (kG h.size h1))
  ·exact .inr (h.Wn j h1)
theorem R.drew {C:Cx} {Γ:Gm} {H:Hp} {w:World} (h:R C Γ H w):R C Γ H { w with drawn:=w.drawn+1 }:=
 ⟨h.Jq,h.fresh,h.Io,h.Dz,h.own,h.apart⟩
theorem Tr.drew (Γ:Gm) (H:Hp) (w:World):Tr Γ H w Γ H { w with drawn:=w.drawn+1 }:=MDY
def Gm.put (Γ:Gm) (n:Nat) (q:Pl):Gm:=⟨fun m=>match Nat.beq m n with | true=>some q | false=>Γ.nm m,Γ.fz⟩
theorem Gm.Bq (Γ:Gm) (n:Nat) (q:Pl):(Γ.put n q).nm n=some q:=by simp [Gm.put]
theorem Gm.Bp (Γ:Gm) {n m:Nat} (q:Pl) (h:m ≠ n):(Γ.put n q).nm m=Γ.nm m:=by simp only [Gm.put,Ll h]
theorem Gm.Oa {Γ:Gm} {n:Nat} {q:Pl} (h:Γ.nm n=none):Γ.le (Γ.put n q):=by
 refine⟨fun m q' hm=>?_,FW.le_refl _⟩
 grind [Gm.Bp]
theorem Cv.IP {P:Program} {Γ:Gm} {w:World} {q:Pl} {o:Ag} (h:Cv P Γ w q o) (hn:q.nl=false):q.blk<w.heap.size:=by
 have key:∀ x,w.heap[q.blk]?=some x->q.blk<w.heap.size:=fun x hx=>(xK.1 hx).1
 by_cases hc:BV o.c=true
 ·rcases (BA hc).1 h with ⟨h1,_⟩ | ⟨_,us,rest,z,h1,_⟩
  ·simp_all
  ·exact key _ h1
 grind [BV,Cv]
theorem RJ.IP {C:Cx} {Γ:Gm} {H:Hp} {w:World} (h:R C Γ H w) {k:Nat} (ho:RJ Γ H k):k<w.heap.size:=by
 obtain⟨n,o,q,h1,h2,h3,h4,rfl⟩:=ho
 obtain⟨q',Gp,h5⟩:=h.Dz n o h1
 rw [h3] at Gp
 injection Gp with e
 subst e
 exact h5.IP h4
theorem aLt {C:Cx} {Γ:Gm} {H:Hp} {w:World} (h:R C Γ H w) {k:Nat} {a:List Value} (ho:Γ.fz k=some a):k<w.heap.size:=by
 obtain⟨t,z,h1⟩:=h.Io k a ho
 grind
def Hp.push (H:Hp) (o:Ag):Hp:=⟨H.next+1,(H.next,o)::H.l⟩
theorem Cv.ext {P:Program} {Γ BU:Gm} {w w':World} {q:Pl} {o:Ag} (h:Cv P Γ w q o) (hb:Γ.le BU)
  (hk:q.nl=false->w'.heap[q.blk]?=w.heap[q.blk]?):Cv P BU w' q o:=by
 by_cases hc:BV o.c=true
 ·rw [BA hc] at h ⊢
  rcases h with h | ⟨h0,us,rest,z,h1,h2,h3,SK,h4,h5,h6,h7,h8⟩
  ·exact .inl h
  ·exact .inr ⟨h0,us,rest,z,MAe,h2,h3,SK,h4,Cw hb _ _ h5,h6,h7,fun e=>hb.fz _ _ (h8 e)⟩
 ·obtain⟨t,fr,c⟩:=o
  cases c <;> simp only [BV,not_true_eq_false,qV,not_false_eq_true] at hc
  ·simp only [Cv] at h ⊢
   obtain⟨h0,h0',fn,tm,qd,Vn,h1,h2,h3⟩:=h
   exact⟨h0,h0',fn,tm,qd,Vn,MAe,⟨h2.1,fun t=>EF (Gm.Yp hb _) _ _ (h2.2 t)⟩,hb.nm _ _ h3⟩
  ·grind [Cv]
  ·simp only [Cv] at h ⊢
   obtain⟨h0,h1,us,k,h2,h3⟩:=h
   exact⟨h0,h1,us,k,MAe,gF hb.fz h3⟩
  ·simp only [Cv] at h ⊢
   obtain⟨h0,h1,us,k,h2,h3⟩:=h
   exact⟨h0,h1,us,k,MAe,gG hb.fz h3⟩
  grind [Cv]
end Go.Proofs.YtkegmchjobphdaaGreatDoor.Y
