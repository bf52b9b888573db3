/- Part 5 of the proof: Wa Wb Wc Wd We Wf Wg Wh Wi Wj Wk Gb Gc Gd Va Vb Za Zb Aa Zc Ac Gf Gg Gh Ge Gi Ej Ea Eb Ec Ed Ex Ef Eg Be Vc -/
import Derived.ChangeArms
import Derived.OpenShut
import Derived.WideHanded
import Derived.ChangeSame
import Derived.ProofKit
import Derived.LaidMore
import Derived.LaidLaws
import Derived.Stop.Joined
import Derived.MakeChecks
import Derived.Test.YtmepdfingcmkmaaGreatDoorQ4
namespace Go.Proofs.YtmepdfingcmkmaaGreatDoor
open Go Y
set_option maxRecDepth 100000
set_option maxHeartbeats 40000000
abbrev TSym:TypeId:=70
def zsO:AObj:=⟨TSym,false, .bx [.p (.str []), .p (i64 0), .p (.str []), .p (i64 0), .p (i64 0)]⟩
def fnd (l:List De) (nm:List UInt8):Option Sy:=if nm=[] then none else(fstI l nm).map fun i=>symOf (l.take i) (l.getD i de0)
def fndV (l:List De) (nm:List UInt8):List PV:=match fnd l nm with
 | some s=>[.agg s.cells, .bool true]
 | none=>[.agg [.str [],i64 0, .str [],i64 0,i64 0], .bool false]
theorem fnd_some {l:List De} {nm:List UInt8} {d:De} (hn:nm ≠ []) (h:fstV l nm=some d):∃ a,fnd l nm=some (symOf a d):=by
 rw [fstV] at h
 rw [fnd,if_neg hn]
 cases hi:fstI l nm with
 | none=>rw [hi] at h;cases h
 | some i=>
  rw [hi] at h
  injection h with h
  exact⟨l.take i,by rw [← h];rfl⟩
theorem fnd_none {l:List De} {nm:List UInt8} (h:fstV l nm=none):fnd l nm=none:=by
 rw [fstV] at h
 rw [fnd]
 cases hi:fstI l nm with
 | none=>split <;> rfl
 | some i=>rw [hi] at h;cases h
theorem rsize_of {l:List De} {nm:List UInt8} (hn:nm ≠ []) (h:Pure cx 34 [des l, .str nm] (·=.ret (fndV l nm))):Pure cx 61 [des l, .str nm] (·=.ret [i64 (sizeV l nm)]):=by
 rw [fndV] at h
 cases hv:fstV l nm with
 | none=>
  have hs:sizeV l nm=0:=by rw [sizeV,hv]
  rw [hs]
  rw [fnd_none hv] at h
  refine pure_of_vc Tryz.func61 rfl rfl rfl ?_
  refine h.eq rfl ?_
  exact end1 _ rfl rfl rfl
 | some d=>
  obtain⟨a,ha⟩:=fnd_some hn hv
  have hs:sizeV l nm=if d.kind=2 then d.n else 0:=by rw [sizeV,hv]
  rw [hs]
  rw [ha,symOf] at h
  by_cases k2:d.kind=2
  ·rw [if_pos k2]
   rw [if_pos k2] at h
   refine pure_of_vc Tryz.func61 rfl rfl rfl ?_
   refine h.eq rfl ?_
   refine And.intro (fun _=>?_) (fun h=>absurd rfl h)
   exact end1 _ rfl rfl rfl
  ·rw [if_neg k2]
   rw [if_neg k2] at h
   refine pure_of_vc Tryz.func61 rfl rfl rfl ?_
   refine h.eq rfl ?_
   refine And.intro (fun h=>absurd (show d.kind=2 from h) k2) (fun _=>?_)
   exact end1 _ rfl rfl rfl
abbrev otF8:OT:=(.pure 0 (.pure 1 (.pure 2 (.eff 3 [1] (.pure 4 (.eff 5 [] .fin .nil)) .nil))))
abbrev otF10:OT:=(.pure 0 (.pure 1 (.pure 2 (.pure 3 (.pure 4 (.eff 5 [] (.pure 6 (.eff 7 [] .fin .nil)) .nil))))))
theorem found_all:∀ (n:Nat) (l:List De) (nm:List UInt8),l.length≤n→l.length≤1000→(∀ d∈l,OkD d)→Pure cx 34 [des l, .str nm] (·=.ret (fndV l nm))
 | n,l,nm,hn,hl,hok=>by
  have IH:∀ m,m<l.length→∀ p,p ≠ []→Pure cx 61 [des (l.take m), .str p] (·=.ret [i64 (sizeV (l.take m) p)]):=fun m hm p hp=>by
   match n,hn with
   | 0,hn=>omega
   | n+1,hn=>exact rsize_of hp (found_all n (l.take m) p (by rw [List.length_take];omega) (by rw [List.length_take];omega) fun d hd=>hok d (List.mem_of_mem_take hd))
  have hm:(l.map De.cells).length=l.length:=List.length_map ..
  refine pure_of_vc Tryz.func34 rfl rfl rfl ?_
  refine⟨Nat,fun k=>[(0, .p (des l)),(1, .p (.str nm)),(4, .ptr 0 0 0),(6, .p (i64 k))],fun _=>⟨1,[(0,zsO)]⟩,fun k=>k≤l.length∧∀ x∈l.take k,¬ (x.name=nm∧¬ nm=[]),fun k=>l.length - k,?_,?_⟩
  ·exact⟨0,⟨Nat.zero_le _,by simp⟩,ent_of [] [] [] rfl (sk) (sk) rfl⟩
  rintro k ⟨k1,k2⟩
  (first | refine brLt (fun m1=>?_) (fun m1=>?_) | refine brLe (fun m1=>?_) (fun m1=>?_) | refine brEq (fun m1=>?_) (fun m1=>?_))
  rotate_left
  ·have m1:¬ (k:Int)<((l.map De.cells).length:Nat):=m1
   rw [hm] at m1
   rw [take_all (by omega)] at k2
   have hR:fnd l nm=none:=by
    rw [fnd]
    split
    ·rfl
    ·rename_i h0
     rw [fstI_none.2 fun x hx e=>k2 x hx ⟨e,h0⟩];rfl
   exact end2 (.agg [.str [],i64 0, .str [],i64 0,i64 0]) (.bool false) rfl rfl rfl (by rw [fndV,hR])
  have m1:(k:Int)<((l.map De.cells).length:Nat):=m1
  rw [hm] at m1
  have hk:k<l.length:=by omega
  have hcell:=decell hk
  have ho:=hok _ (getD_memL de0 hk)
  have hF:∀ nm',(l.getD k de0).name=nm'→nm'=nm→¬ nm=[]→fndV l nm=[.agg (symOf (l.take k) (l.getD k de0)).cells, .bool true]:=fun nm' e1 e2 h0=>by
   have hi:fstI l nm=some k:=by
    have ht:l=l.take k++(l.getD k de0::l.drop (k+1)):=by rw [← dropD de0 hk,List.take_append_drop]
    have hz:fstI (l.take k) nm=none:=fstI_none.2 fun x hx e=>k2 x hx ⟨e,h0⟩
    rw [ht,fstI_app,hz]
    show(fstI (l.getD k de0::l.drop (k+1)) nm).map (·+(l.take k).length)=some k
    rw [fstI,if_pos (e1.trans e2),List.length_take]
    show some (0+min k l.length)=some k
    rw [Nat.zero_add,Nat.min_eq_left (by omega)]
   rw [fndV,fnd,if_neg h0,hi];rfl
  have hnx:(¬ ((l.getD k de0).name=nm∧¬ nm=[]))→∀ x∈l.take (k+1),¬ (x.name=nm∧¬ nm=[]):=fun hx x hxm=>by
   rw [take_succ_getD de0 hk] at hxm
   rcases List.mem_append.1 hxm with hxm | hxm
   ·exact k2 x hxm
   ·rw [List.mem_singleton.1 hxm];exact hx
  have ih:=IH k hk
  generalize l.getD k de0=d at hcell ho hF hnx
  obtain⟨dk,dn,dnm,dpl,drs,dcs⟩:=d
  have hkind:=ho.kind
  have hbare:=ho.bare
  have hname:=ho.name
  have hplate:=ho.plate
  simp only [] at hkind hbare hname hplate hF hnx
  refine⟨_,⟨by omega,(De.mk dk dn dnm dpl drs dcs).cells,hcell,rfl⟩,?_⟩
  refine And.intro (fun e1=>?_) (fun e1=>?_)
  rotate_left
  ·have e1:¬ dnm=nm:=e1
   refine⟨_,wrap_i64 (by omega) (by omega),?_⟩
   exact⟨k+1,⟨by omega,hnx fun h=>e1 h.1⟩,ent_of [] [] [] rfl (sk) (sk) rfl,by show l.length - (k+1)<l.length - k;omega⟩
  have e1:dnm=nm:=e1
  rcases hkind with rfl | rfl | rfl | rfl | rfl
  ·refine And.intro (fun h=>absurd (show(1:Int)=2 from h) (by decide)) (fun _=>?_)
   refine And.intro (fun h=>absurd (show(1:Int)=3 from h) (by decide)) (fun _=>?_)
   refine And.intro (fun h=>absurd (show(1:Int)=4 from h) (by decide)) (fun _=>?_)
   refine⟨_,wrap_i64 (by omega) (by omega),?_⟩
   exact⟨k+1,⟨by omega,hnx fun h=>h.2 (e1.symm.trans (hbare (.inl rfl)))⟩,ent_of [] [] [] rfl (sk) (sk) rfl,by show l.length - (k+1)<l.length - k;omega⟩
  ·have h0:¬ nm=[]:=fun e=>hname (.inl rfl) (e1.trans e)
   have hR:=hF dnm rfl e1 h0
   rw [symOf,if_pos rfl] at hR
   have hp:=hplate (by decide)
   subst e1
   subst hp
   refine And.intro (fun _=>?_) (fun h=>absurd rfl h)
   refine And.intro (fun _=>?_) (fun h=>absurd rfl h)
   refine vdraw_ot otF8 (by kernel_rfl) ?_
   refine⟨sk,?_⟩
   exact end2 (.agg (Sy.cells (Sy.mk dnm 2 [] 0 dn))) (.bool true) rfl rfl rfl (by rw [hR])
  ·have h0:¬ nm=[]:=fun e=>hname (.inr (.inl rfl)) (e1.trans e)
   have hR:=hF dnm rfl e1 h0
   rw [symOf,if_neg (show ¬ (3:Int)=2 by decide)] at hR
   subst e1
   refine And.intro (fun h=>absurd (show(3:Int)=2 from h) (by decide)) (fun _=>?_)
   refine And.intro (fun _=>?_) (fun h=>absurd rfl h)
   refine And.intro (fun h=>absurd (show(3:Int)=2 from h) (by decide)) (fun _=>?_)
   refine And.intro (fun p0=>?_) (fun p0=>?_)
   ·have p0:dpl=[]:=p0
    simp only [if_pos p0] at hR
    exact end2 (.agg (Sy.cells (Sy.mk dnm 3 dpl dn 1))) (.bool true) rfl rfl rfl (by rw [hR])
   ·have p0:¬ dpl=[]:=p0
    simp only [if_neg p0] at hR
    have hS:=ih dpl p0
    have ea:[des (l.take k),PV.str dpl]=[PV.lsts 6 ((l.map De.cells).take ((k:Nat):Int).toNat), .str dpl]:=by show [PV.lsts 6 ((l.take k).map De.cells),_]=_;rw [List.map_take];rfl
    rw [ea] at hS
    generalize sizeV (l.take k) dpl=sz at hS hR
    refine vdraw_ot otF10 (by kernel_rfl) ?_
    refine⟨by show(0:Int)≤(k:Nat)∧((k:Nat):Int)≤((l.map De.cells).length:Nat);rw [hm];omega,?_⟩
    refine hS.eq rfl ?_
    exact end2 (.agg (Sy.cells (Sy.mk dnm 3 dpl dn sz))) (.bool true) rfl rfl rfl (by rw [hR])
  ·have h0:¬ nm=[]:=fun e=>hname (.inr (.inr rfl)) (e1.trans e)
   have hR:=hF dnm rfl e1 h0
   have hp:=hplate (by decide)
   rw [symOf,if_neg (show ¬ (4:Int)=2 by decide)] at hR
   simp only [if_pos hp] at hR
   subst e1
   refine And.intro (fun h=>absurd (show(4:Int)=2 from h) (by decide)) (fun _=>?_)
   refine And.intro (fun h=>absurd (show(4:Int)=3 from h) (by decide)) (fun _=>?_)
   refine And.intro (fun _=>?_) (fun h=>absurd rfl h)
   refine And.intro (fun h=>absurd (show(4:Int)=2 from h) (by decide)) (fun _=>?_)
   refine And.intro (fun _=>?_) (fun h=>absurd hp h)
   exact end2 (.agg (Sy.cells (Sy.mk dnm 4 dpl dn 1))) (.bool true) rfl rfl rfl (by rw [hR])
  ·refine And.intro (fun h=>absurd (show(5:Int)=2 from h) (by decide)) (fun _=>?_)
   refine And.intro (fun h=>absurd (show(5:Int)=3 from h) (by decide)) (fun _=>?_)
   refine And.intro (fun h=>absurd (show(5:Int)=4 from h) (by decide)) (fun _=>?_)
   refine⟨_,wrap_i64 (by omega) (by omega),?_⟩
   exact⟨k+1,⟨by omega,hnx fun h=>h.2 (e1.symm.trans (hbare (.inr rfl)))⟩,ent_of [] [] [] rfl (sk) (sk) rfl,by show l.length - (k+1)<l.length - k;omega⟩
theorem found_c (l:List De) (nm:List UInt8) (hl:l.length≤1000) (hok:∀ d∈l,OkD d):Pure cx 34 [des l, .str nm] (·=.ret (fndV l nm)):=found_all _ l nm (Nat.le_refl _) hl hok
theorem rsize_c (l:List De) {nm:List UInt8} (hn:nm ≠ []) (hl:l.length≤1000) (hok:∀ d∈l,OkD d):Pure cx 61 [des l, .str nm] (·=.ret [i64 (sizeV l nm)]):=rsize_of hn (found_c l nm hl hok)
theorem rown_c (d:De) (r:Rf):Pure cx 145 [d.pv,r.pv] (·=.ret [.bool (ownB d r)]):=by
 obtain⟨R,hR⟩:∃ R,R=ownB d r:=⟨_,rfl⟩
 rw [← hR]
 rw [ownB] at hR
 refine pure_of_vc Tryz.func145 rfl rfl rfl ?_
 (first | refine brLt (fun h1=>?_) (fun h1=>?_) | refine brLe (fun h1=>?_) (fun h1=>?_) | refine brEq (fun h1=>?_) (fun h1=>?_))
 rotate_left
 ·have h1:¬ d.kind=3:=h1
  exact end1 _ rfl rfl (retB (by rw [hR,decide_eq_false h1];rfl))
 have h1:d.kind=3:=h1
 rw [decide_eq_true h1] at hR
 (first | refine brLt (fun h2=>?_) (fun h2=>?_) | refine brLe (fun h2=>?_) (fun h2=>?_) | refine brEq (fun h2=>?_) (fun h2=>?_))
 ·have h2:d.plate=[]:=h2
  exact end1 _ rfl rfl (retB (by rw [hR,decide_eq_false (show ¬ ¬ d.plate=[] from fun h=>h h2)];rfl))
 have h2:¬ d.plate=[]:=h2
 rw [decide_eq_true h2] at hR
 (first | refine brLt (fun h3=>?_) (fun h3=>?_) | refine brLe (fun h3=>?_) (fun h3=>?_) | refine brEq (fun h3=>?_) (fun h3=>?_))
 rotate_left
 ·have h3:¬ r.name=d.name:=h3
  exact end1 _ rfl rfl (retB (by rw [hR,decide_eq_false h3];rfl))
 have h3:r.name=d.name:=h3
 rw [decide_eq_true h3] at hR
 (first | refine brLt (fun h4=>?_) (fun h4=>?_) | refine brLe (fun h4=>?_) (fun h4=>?_) | refine brEq (fun h4=>?_) (fun h4=>?_))
 rotate_left
 ·have h4:¬ r.mode=1:=h4
  exact end1 _ rfl rfl (retB (by rw [hR,decide_eq_false h4];rfl))
 have h4:r.mode=1:=h4
 rw [decide_eq_true h4] at hR
 (first | refine brLt (fun h5=>?_) (fun h5=>?_) | refine brLe (fun h5=>?_) (fun h5=>?_) | refine brEq (fun h5=>?_) (fun h5=>?_))
 rotate_left
 ·have h5:¬ r.plate=d.plate:=h5
  exact end1 _ rfl rfl (retB (by rw [hR,decide_eq_false h5];rfl))
 have h5:r.plate=d.plate:=h5
 rw [decide_eq_true h5] at hR
 (first | refine brLt (fun h6=>?_) (fun h6=>?_) | refine brLe (fun h6=>?_) (fun h6=>?_) | refine brEq (fun h6=>?_) (fun h6=>?_))
 ·have h6:1≤r.n:=h6
  exact end1 _ rfl rfl (retB (by rw [hR,decide_eq_true h6];rfl))
 ·have h6:¬ 1≤r.n:=h6
  exact end1 _ rfl rfl (retB (by rw [hR,decide_eq_false h6];rfl))
def skS (l:List De) (d:De) (r:Rf):Option Sy:=match fnd l r.name with
 | some s=>some s
 | none=>if ownB d r then some ⟨d.name,d.kind,d.plate,d.n,sizeV l d.plate⟩ else none
def skV (o:Option Sy):List PV:=match o with
 | some s=>[.agg s.cells, .bool true]
 | none=>[.agg [.str [],i64 0, .str [],i64 0,i64 0], .bool false]
abbrev otK3:OT:=(.pure 0 (.pure 1 (.pure 2 (.pure 3 (.pure 4 (.pure 5 (.pure 6 (.pure 7 (.pure 8 (.pure 9 (.pure 10 (.eff 11 [7,5,3,1] (.pure 12 (.eff 13 [] (.pure 14 .fin) .nil)) .nil))))))))))))
theorem rseek_c (l:List De) (d:De) (r:Rf) (hl:l.length≤1000) (hok:∀ d∈l,OkD d):Pure cx 120 [des l,d.pv,r.pv] (·=.ret (skV (skS l d r))):=by
 have hF:=found_c l r.name hl hok
 have hO:=rown_c d r
 rw [fndV] at hF
 rw [skS]
 cases hf:fnd l r.name with
 | some s=>
  rw [hf] at hF
  simp only [] at hF
  show Pure cx _ _ (·=.ret [.agg s.cells, .bool true])
  obtain⟨s1,s2,s3,s4,s5⟩:=s
  obtain⟨dk,dn,dnm,dpl,drs,dcs⟩:=d
  refine pure_of_vc Tryz.func120 rfl rfl rfl ?_
  refine hF.eq rfl ?_
  exact end2 (.agg (Sy.cells ⟨s1,s2,s3,s4,s5⟩)) (.bool true) rfl rfl rfl rfl
 | none=>
  rw [hf] at hF
  simp only [] at hF
  by_cases ho:ownB d r=true
  ·rw [ho] at hO
   have hp:=(own_iff.1 ho).2.1
   have hS:=rsize_c l hp hl hok
   simp only [if_pos ho,skV]
   generalize sizeV l d.plate=sz at hS
   obtain⟨dk,dn,dnm,dpl,drs,dcs⟩:=d
   refine pure_of_vc Tryz.func120 rfl rfl rfl ?_
   refine hF.eq rfl ?_
   refine hO.eq rfl ?_
   refine vdraw_ot otK3 (by kernel_rfl) ?_
   refine hS.eq rfl ?_
   refine⟨sk,?_⟩
   exact end2 (.agg (Sy.cells ⟨dnm,dk,dpl,dn,sz⟩)) (.bool true) rfl rfl rfl rfl
  ·simp only [if_neg ho,skV]
   rw [Bool.not_eq_true] at ho
   rw [ho] at hO
   obtain⟨dk,dn,dnm,dpl,drs,dcs⟩:=d
   refine pure_of_vc Tryz.func120 rfl rfl rfl ?_
   refine hF.eq rfl ?_
   refine hO.eq rfl ?_
   exact end2 (.agg [.str [],i64 0, .str [],i64 0,i64 0]) (.bool false) rfl rfl rfl rfl
abbrev otR14:OT:=(.pure 0 (.pure 1 (.pure 2 (.pure 3 (.pure 4 (.eff 5 [1] (.pure 6 .fin) .nil))))))
theorem scref_c (l:List De) (d:De) (r:Rf) (hn:r.name ≠ []) (hl:l.length≤1000) (hok:∀ d∈l,OkD d):Pure cx 93 [des l,d.pv,r.pv] (·=.ret [i64 (refI l d r)]):=by
 have hK:=rseek_c l d r hl hok
 obtain⟨R,hR⟩:∃ R,R=refI l d r:=⟨_,rfl⟩
 rw [← hR]
 rw [refI] at hR
 rw [skS] at hK
 cases hv:fstV l r.name with
 | none=>
  rw [fnd_none hv] at hK
  rw [hv] at hR
  simp only [] at hR hK
  by_cases ho:ownB d r=true
  ·rw [if_pos ho] at hR hK
   obtain⟨o1,o2,o3⟩:=own_iff.1 ho
   have o4:r.mode=1:=by rw [o3]
   have o5:r.plate=d.plate:=by rw [o3]
   generalize sizeV l d.plate=sz at hK
   rw [skV] at hK
   try simp only [] at hK
   obtain⟨dk,dn,dnm,dpl,drs,dcs⟩:=d
   obtain⟨rn,rm,rp,ri⟩:=r
   simp only [] at o1 o2 o4 o5
   subst o1
   subst o4
   refine pure_of_vc Tryz.func93 rfl rfl rfl ?_
   refine hK.eq rfl ?_
   refine And.intro (fun h=>absurd (show(3:Int)=2 from h) (by decide)) (fun _=>?_)
   refine And.intro (fun h=>absurd h o2) (fun _=>?_)
   refine And.intro (fun h=>absurd (show(1:Int)=0 from h) (by decide)) (fun _=>?_)
   refine And.intro (fun h=>absurd (show(1:Int)=2 from h) (by decide)) (fun _=>?_)
   refine And.intro (fun _=>?_) (fun h=>absurd rfl h)
   refine And.intro (fun _=>?_) (fun h=>absurd rfl h)
   refine And.intro (fun _=>?_) (fun h=>absurd rfl h)
   refine And.intro (fun _=>?_) (fun h=>absurd o5 h)
   exact end1 _ rfl rfl (retI hR.symm)
  ·rw [if_neg ho] at hR hK
   rw [skV] at hK
   try simp only [] at hK
   obtain⟨dk,dn,dnm,dpl,drs,dcs⟩:=d
   refine pure_of_vc Tryz.func93 rfl rfl rfl ?_
   refine hK.eq rfl ?_
   exact end1 _ rfl rfl (retI hR.symm)
 | some t=>
  obtain⟨a,ha⟩:=fnd_some hn hv
  have ht:=hok t (fstV_mem hv).1
  rw [ha] at hK
  rw [hv] at hR
  simp only [] at hR hK
  rw [skV,symOf] at hK
  rw [placeI] at hR
  by_cases k2:t.kind=2
  ·rw [if_pos k2] at hK
   simp only [if_pos k2] at hR
   try simp only [] at hK
   obtain⟨dk,dn,dnm,dpl,drs,dcs⟩:=d
   refine pure_of_vc Tryz.func93 rfl rfl rfl ?_
   refine hK.eq rfl ?_
   refine And.intro (fun _=>?_) (fun h=>absurd rfl h)
   exact end1 _ rfl rfl (retI hR.symm)
  have hS:=fun hp=>rsize_c l (nm:=t.plate) hp hl hok
  rw [if_neg k2] at hK
  simp only [if_neg k2] at hR
  try simp only [] at hK
  generalize (if t.plate=[] then 1 else sizeV a t.plate)=sz at hK
  obtain⟨dk,dn,dnm,dpl,drs,dcs⟩:=d
  obtain⟨rn,rm,rp,ri⟩:=r
  obtain⟨tk,tn,tnm,tpl,trs,tcs⟩:=t
  simp only [] at hR hK k2 hS
  clear hv ha ht
  refine pure_of_vc Tryz.func93 rfl rfl rfl ?_
  refine hK.eq rfl ?_
  refine And.intro (fun h=>absurd h k2) (fun _=>?_)
  (first | refine brLt (fun p0=>?_) (fun p0=>?_) | refine brLe (fun p0=>?_) (fun p0=>?_) | refine brEq (fun p0=>?_) (fun p0=>?_))
  ·have p0:tpl=[]:=p0
   rw [if_pos p0] at hR
   (first | refine brLt (fun m0=>?_) (fun m0=>?_) | refine brLe (fun m0=>?_) (fun m0=>?_) | refine brEq (fun m0=>?_) (fun m0=>?_))
   ·have m0:rm=0:=m0
    rw [decide_eq_false (show ¬ ¬ rm=0 from fun h=>h m0)] at hR
    exact end1 _ rfl rfl (retI hR.symm)
   ·have m0:¬ rm=0:=m0
    rw [decide_eq_true m0] at hR
    exact end1 _ rfl rfl (retI hR.symm)
  have p0:¬ tpl=[]:=p0
  rw [if_neg p0] at hR
  (first | refine brLt (fun m0=>?_) (fun m0=>?_) | refine brLe (fun m0=>?_) (fun m0=>?_) | refine brEq (fun m0=>?_) (fun m0=>?_))
  ·have m0:rm=0:=m0
   rw [if_pos m0] at hR
   exact end1 _ rfl rfl (retI hR.symm)
  have m0:¬ rm=0:=m0
  rw [if_neg m0] at hR
  (first | refine brLt (fun m2=>?_) (fun m2=>?_) | refine brLe (fun m2=>?_) (fun m2=>?_) | refine brEq (fun m2=>?_) (fun m2=>?_))
  ·have m2:rm=2:=m2
   rw [if_pos m2] at hR
   refine vdraw_ot otR14 (by kernel_rfl) ?_
   refine(hS p0).eq rfl ?_
   refine⟨sk,?_⟩
   (first | refine brLt (fun g1=>?_) (fun g1=>?_) | refine brLe (fun g1=>?_) (fun g1=>?_) | refine brEq (fun g1=>?_) (fun g1=>?_))
   ·have g1:sizeV l tpl≤ri:=g1
    rw [decide_eq_true g1] at hR
    exact end1 _ rfl rfl (retI hR.symm)
   ·have g1:¬ sizeV l tpl≤ri:=g1
    rw [decide_eq_false g1] at hR
    exact end1 _ rfl rfl (retI hR.symm)
  have m2:¬ rm=2:=m2
  rw [if_neg m2] at hR
  (first | refine brLt (fun m1=>?_) (fun m1=>?_) | refine brLe (fun m1=>?_) (fun m1=>?_) | refine brEq (fun m1=>?_) (fun m1=>?_))
  ·have m1:rm=1:=m1
   rw [if_pos m1] at hR
   (first | refine brLt (fun q1=>?_) (fun q1=>?_) | refine brLe (fun q1=>?_) (fun q1=>?_) | refine brEq (fun q1=>?_) (fun q1=>?_))
   rotate_left
   ·have q1:¬ dk=3:=q1
    rw [decide_eq_true (show ¬ (dk=3∧dpl=tpl∧rp=tpl) from fun h=>q1 h.1)] at hR
    exact end1 _ rfl rfl (retI hR.symm)
   have q1:dk=3:=q1
   (first | refine brLt (fun q2=>?_) (fun q2=>?_) | refine brLe (fun q2=>?_) (fun q2=>?_) | refine brEq (fun q2=>?_) (fun q2=>?_))
   rotate_left
   ·have q2:¬ dpl=tpl:=q2
    rw [decide_eq_true (show ¬ (dk=3∧dpl=tpl∧rp=tpl) from fun h=>q2 h.2.1)] at hR
    exact end1 _ rfl rfl (retI hR.symm)
   have q2:dpl=tpl:=q2
   (first | refine brLt (fun q3=>?_) (fun q3=>?_) | refine brLe (fun q3=>?_) (fun q3=>?_) | refine brEq (fun q3=>?_) (fun q3=>?_))
   ·have q3:rp=tpl:=q3
    rw [decide_eq_false (show ¬ ¬ (dk=3∧dpl=tpl∧rp=tpl) from fun h=>h ⟨q1,q2,q3⟩)] at hR
    exact end1 _ rfl rfl (retI hR.symm)
   ·have q3:¬ rp=tpl:=q3
    rw [decide_eq_true (show ¬ (dk=3∧dpl=tpl∧rp=tpl) from fun h=>q3 h.2.2)] at hR
    exact end1 _ rfl rfl (retI hR.symm)
  ·have m1:¬ rm=1:=m1
   rw [if_neg m1] at hR
   exact end1 _ rfl rfl (retI hR.symm)
abbrev otT5:OT:=(.pure 0 (.pure 1 (.pure 2 (.pure 3 (.pure 4 (.pure 5 (.pure 6 (.pure 7 (.pure 8 (.pure 9 (.pure 10 (.pure 11 .fin))))))))))))
theorem scrtest_c (l:List De) (d:De) {op n rel val:Int} {r:Rf} {st:List Int} {ar:List Cd} (hn:r.name ≠ []) (hst:op=5→1≤st.length) (hsl:st.length≤100) (hdr:d.refs.length≤100) (hl:l.length≤1000) (hok:∀ d∈l,OkD d):Pure cx 121 [des l,d.pv,(Cd.mk op n rel val r st ar).pv] (·=.ret [i64 (testI l d op n val r st)]):=by
 obtain⟨R,hR⟩:∃ R,R=testI l d op n val r st:=⟨_,rfl⟩
 rw [← hR]
 have hK:=rseek_c l d r hl hok
 obtain⟨dk,dn,dnm,dpl,drs,dcs⟩:=d
 have hdr:drs.length≤100:=hdr
 rw [testI,valI] at hR
 rw [skS] at hK
 cases hv:fstV l r.name with
 | none=>
  rw [fnd_none hv] at hK
  rw [hv] at hR
  simp only [] at hR hK
  by_cases ho:ownB ⟨dk,dn,dnm,dpl,drs,dcs⟩ r=true
  ·have hk3:dk=3:=(own_iff.1 ho).1
   have hk2:¬ dk=2:=by omega
   simp only [if_pos ho] at hR hK
   rw [skV] at hK
   try simp only [] at hK
   obtain⟨kk,hkk⟩:∃ kk,kk=dn:=⟨_,rfl⟩
   rw [← hkk] at hR
   generalize sizeV l dpl=sz at hK
   clear hv ho
   subst hkk
   refine pure_of_vc Tryz.func121 rfl rfl rfl ?_
   refine⟨Nat × Bool,fun x=>[(0, .p (des l)),(4, .ptr 0 0 0),(5, .ptr 1 0 0),(7, .p (.bool x.2)),(8, .p (i64 x.1))],fun _=>⟨2,[(1,cnO (.mk op n rel val r st ar)),(0,dcO ⟨dk,kk,dnm,dpl,drs,dcs⟩)]⟩,fun x=>x.1≤drs.length∧x.2=decide (r∈drs.take x.1),fun x=>drs.length - x.1,?_,?_⟩
   ·exact⟨(0,false),⟨Nat.zero_le _,by simp⟩,ent_of [] [] [] rfl (sk) (sk) rfl⟩
   rintro⟨k,b⟩ ⟨k1,k2⟩
   simp only [] at k1 k2
   (first | refine brLt (fun m1=>?_) (fun m1=>?_) | refine brLe (fun m1=>?_) (fun m1=>?_) | refine brEq (fun m1=>?_) (fun m1=>?_))
   ·have m1:(k:Int)<((drs.map Rf.cells).length:Nat):=m1
    rw [List.length_map] at m1
    have hk:k<drs.length:=by omega
    have hcell:=rcell hk
    have hnx:(r∈drs.take (k+1)) ↔ (r∈drs.take k∨r=drs.getD k rf0):=by rw [take_succ_getD rf0 hk,List.mem_append,List.mem_singleton]
    generalize drs.getD k rf0=x at hcell hnx
    cases b
    ·refine vdraw_ot otT5 (by kernel_rfl) ?_
     refine⟨_,⟨by omega,x.cells,hcell,rfl⟩,?_⟩
     refine⟨⟨by kernel_rfl,by kernel_rfl⟩,fun e1=>?_,fun e1=>?_⟩
     ·have e1:x=r:=rf_ext (by first | exact e1 | (injection e1))
      refine⟨_,wrap_i64 (by omega) (by omega),?_⟩
      exact⟨(k+1,true),⟨by show k+1≤drs.length;omega,(decide_eq_true (hnx.2 (.inr e1.symm))).symm⟩,ent_of [] [] [] rfl (sk) (sk) rfl,by show drs.length - (k+1)<drs.length - k;omega⟩
     ·have e1:¬ x=r:=fun e=>e1 (by rw [e])
      have hno:¬ r∈drs.take k:=of_decide_eq_false k2.symm
      refine⟨_,wrap_i64 (by omega) (by omega),?_⟩
      exact⟨(k+1,false),⟨by show k+1≤drs.length;omega,(decide_eq_false (fun h=>(hnx.1 h).elim hno fun e=>e1 e.symm)).symm⟩,ent_of [] [] [] rfl (sk) (sk) rfl,by show drs.length - (k+1)<drs.length - k;omega⟩
    ·have hyes:r∈drs.take k:=of_decide_eq_true k2.symm
     refine vdraw_ot otT5 (by kernel_rfl) ?_
     refine⟨_,wrap_i64 (by omega) (by omega),?_⟩
     exact⟨(k+1,true),⟨by show k+1≤drs.length;omega,(decide_eq_true (hnx.2 (.inl hyes))).symm⟩,ent_of [] [] [] rfl (sk) (sk) rfl,by show drs.length - (k+1)<drs.length - k;omega⟩
   have m1:¬ (k:Int)<((drs.map Rf.cells).length:Nat):=m1
   rw [List.length_map] at m1
   rw [take_all (by omega)] at k2
   cases b
   ·have hno:¬ r∈drs:=of_decide_eq_false k2.symm
    rw [if_pos hno] at hR
    exact end1 _ rfl rfl (retI hR.symm)
   have hmem:r∈drs:=of_decide_eq_true k2.symm
   rw [if_neg (fun h=>h hmem)] at hR
   (first | refine brLt (fun md=>?_) (fun md=>?_) | refine brLe (fun md=>?_) (fun md=>?_) | refine brEq (fun md=>?_) (fun md=>?_))
   ·have md:r.mode=3:=md
    (first | refine brLt (fun o6=>?_) (fun o6=>?_) | refine brLe (fun o6=>?_) (fun o6=>?_) | refine brEq (fun o6=>?_) (fun o6=>?_))
    rotate_left
    ·have o6:¬ op=6:=o6
     rw [if_pos ⟨md,o6⟩] at hR
     exact end1 _ rfl rfl (retI hR.symm)
    have o6:op=6:=o6
    rw [if_neg (fun h=>h.2 o6)] at hR
    (first | refine brLt (fun o5=>?_) (fun o5=>?_) | refine brLe (fun o5=>?_) (fun o5=>?_) | refine brEq (fun o5=>?_) (fun o5=>?_))
    ·have o5:op=5:=o5
     obtain⟨m,hm⟩:∃ m:Nat,st.length=m+1:=⟨st.length - 1,by have:=hst o5;omega⟩
     have hm1:((st.map i64).length:Int) - 1=(m:Nat):=by rw [List.length_map];omega
     have hmd:st.length - 1=m:=by omega
     refine⟨((m:Nat):Int),by show _=IntKind.i64.wrap (((st.map i64).length:Nat) - 1:Int);rw [hm1];exact wrap_i64 (by omega) (by omega),?_⟩
     refine⟨_,⟨by omega,i64 (st.getD m 0),icell (by omega),rfl⟩,?_⟩
     have hg:gstI op n val st=st.getD m 0:=by rw [gstI,if_pos o5,hmd]
     refine hK.eq rfl ?_
     refine And.intro (fun h=>absurd h hk2) (fun _=>?_)
     (first | refine brLt (fun w1=>?_) (fun w1=>?_) | refine brLe (fun w1=>?_) (fun w1=>?_) | refine brEq (fun w1=>?_) (fun w1=>?_))
     ·have w1:kk≤st.getD m 0:=w1
      exact end1 _ rfl rfl (retI (by rw [hR,hg,if_pos w1]))
     ·have w1:¬ kk≤st.getD m 0:=w1
      exact end1 _ rfl rfl (retI (by rw [hR,hg,if_neg w1]))
    have o5:¬ op=5:=o5
    (first | refine brLt (fun p6=>?_) (fun p6=>?_) | refine brLe (fun p6=>?_) (fun p6=>?_) | refine brEq (fun p6=>?_) (fun p6=>?_))
    ·have p6:op=6:=p6
     have hg:gstI op n val st=val:=by rw [gstI,if_neg o5,if_pos p6]
     refine hK.eq rfl ?_
     refine And.intro (fun h=>absurd h hk2) (fun _=>?_)
     (first | refine brLt (fun w1=>?_) (fun w1=>?_) | refine brLe (fun w1=>?_) (fun w1=>?_) | refine brEq (fun w1=>?_) (fun w1=>?_))
     ·have w1:kk≤val:=w1
      exact end1 _ rfl rfl (retI (by rw [hR,hg,if_pos w1]))
     ·have w1:¬ kk≤val:=w1
      exact end1 _ rfl rfl (retI (by rw [hR,hg,if_neg w1]))
    have p6:¬ op=6:=p6
    have hg:gstI op n val st=n:=by rw [gstI,if_neg o5,if_neg p6]
    refine hK.eq rfl ?_
    refine And.intro (fun h=>absurd h hk2) (fun _=>?_)
    (first | refine brLt (fun w1=>?_) (fun w1=>?_) | refine brLe (fun w1=>?_) (fun w1=>?_) | refine brEq (fun w1=>?_) (fun w1=>?_))
    ·have w1:kk≤n:=w1
     exact end1 _ rfl rfl (retI (by rw [hR,hg,if_pos w1]))
    ·have w1:¬ kk≤n:=w1
     exact end1 _ rfl rfl (retI (by rw [hR,hg,if_neg w1]))
   have md:¬ r.mode=3:=md
   rw [if_neg (fun h=>md h.1)] at hR
   (first | refine brLt (fun o5=>?_) (fun o5=>?_) | refine brLe (fun o5=>?_) (fun o5=>?_) | refine brEq (fun o5=>?_) (fun o5=>?_))
   ·have o5:op=5:=o5
    obtain⟨m,hm⟩:∃ m:Nat,st.length=m+1:=⟨st.length - 1,by have:=hst o5;omega⟩
    have hm1:((st.map i64).length:Int) - 1=(m:Nat):=by rw [List.length_map];omega
    have hmd:st.length - 1=m:=by omega
    refine⟨((m:Nat):Int),by show _=IntKind.i64.wrap (((st.map i64).length:Nat) - 1:Int);rw [hm1];exact wrap_i64 (by omega) (by omega),?_⟩
    refine⟨_,⟨by omega,i64 (st.getD m 0),icell (by omega),rfl⟩,?_⟩
    have hg:gstI op n val st=st.getD m 0:=by rw [gstI,if_pos o5,hmd]
    refine hK.eq rfl ?_
    refine And.intro (fun h=>absurd h hk2) (fun _=>?_)
    (first | refine brLt (fun w1=>?_) (fun w1=>?_) | refine brLe (fun w1=>?_) (fun w1=>?_) | refine brEq (fun w1=>?_) (fun w1=>?_))
    ·have w1:kk≤st.getD m 0:=w1
     exact end1 _ rfl rfl (retI (by rw [hR,hg,if_pos w1]))
    ·have w1:¬ kk≤st.getD m 0:=w1
     exact end1 _ rfl rfl (retI (by rw [hR,hg,if_neg w1]))
   have o5:¬ op=5:=o5
   (first | refine brLt (fun p6=>?_) (fun p6=>?_) | refine brLe (fun p6=>?_) (fun p6=>?_) | refine brEq (fun p6=>?_) (fun p6=>?_))
   ·have p6:op=6:=p6
    have hg:gstI op n val st=val:=by rw [gstI,if_neg o5,if_pos p6]
    refine hK.eq rfl ?_
    refine And.intro (fun h=>absurd h hk2) (fun _=>?_)
    (first | refine brLt (fun w1=>?_) (fun w1=>?_) | refine brLe (fun w1=>?_) (fun w1=>?_) | refine brEq (fun w1=>?_) (fun w1=>?_))
    ·have w1:kk≤val:=w1
     exact end1 _ rfl rfl (retI (by rw [hR,hg,if_pos w1]))
    ·have w1:¬ kk≤val:=w1
     exact end1 _ rfl rfl (retI (by rw [hR,hg,if_neg w1]))
   have p6:¬ op=6:=p6
   have hg:gstI op n val st=n:=by rw [gstI,if_neg o5,if_neg p6]
   refine hK.eq rfl ?_
   refine And.intro (fun h=>absurd h hk2) (fun _=>?_)
   (first | refine brLt (fun w1=>?_) (fun w1=>?_) | refine brLe (fun w1=>?_) (fun w1=>?_) | refine brEq (fun w1=>?_) (fun w1=>?_))
   ·have w1:kk≤n:=w1
    exact end1 _ rfl rfl (retI (by rw [hR,hg,if_pos w1]))
   ·have w1:¬ kk≤n:=w1
    exact end1 _ rfl rfl (retI (by rw [hR,hg,if_neg w1]))
  ·simp only [if_neg ho] at hR hK
   rw [skV] at hK
   try simp only [] at hK
   clear hv ho
   refine pure_of_vc Tryz.func121 rfl rfl rfl ?_
   refine⟨Nat × Bool,fun x=>[(0, .p (des l)),(4, .ptr 0 0 0),(5, .ptr 1 0 0),(7, .p (.bool x.2)),(8, .p (i64 x.1))],fun _=>⟨2,[(1,cnO (.mk op n rel val r st ar)),(0,dcO ⟨dk,dn,dnm,dpl,drs,dcs⟩)]⟩,fun x=>x.1≤drs.length∧x.2=decide (r∈drs.take x.1),fun x=>drs.length - x.1,?_,?_⟩
   ·exact⟨(0,false),⟨Nat.zero_le _,by simp⟩,ent_of [] [] [] rfl (sk) (sk) rfl⟩
   rintro⟨k,b⟩ ⟨k1,k2⟩
   simp only [] at k1 k2
   (first | refine brLt (fun m1=>?_) (fun m1=>?_) | refine brLe (fun m1=>?_) (fun m1=>?_) | refine brEq (fun m1=>?_) (fun m1=>?_))
   ·have m1:(k:Int)<((drs.map Rf.cells).length:Nat):=m1
    rw [List.length_map] at m1
    have hk:k<drs.length:=by omega
    have hcell:=rcell hk
    have hnx:(r∈drs.take (k+1)) ↔ (r∈drs.take k∨r=drs.getD k rf0):=by rw [take_succ_getD rf0 hk,List.mem_append,List.mem_singleton]
    generalize drs.getD k rf0=x at hcell hnx
    cases b
    ·refine vdraw_ot otT5 (by kernel_rfl) ?_
     refine⟨_,⟨by omega,x.cells,hcell,rfl⟩,?_⟩
     refine⟨⟨by kernel_rfl,by kernel_rfl⟩,fun e1=>?_,fun e1=>?_⟩
     ·have e1:x=r:=rf_ext (by first | exact e1 | (injection e1))
      refine⟨_,wrap_i64 (by omega) (by omega),?_⟩
      exact⟨(k+1,true),⟨by show k+1≤drs.length;omega,(decide_eq_true (hnx.2 (.inr e1.symm))).symm⟩,ent_of [] [] [] rfl (sk) (sk) rfl,by show drs.length - (k+1)<drs.length - k;omega⟩
     ·have e1:¬ x=r:=fun e=>e1 (by rw [e])
      have hno:¬ r∈drs.take k:=of_decide_eq_false k2.symm
      refine⟨_,wrap_i64 (by omega) (by omega),?_⟩
      exact⟨(k+1,false),⟨by show k+1≤drs.length;omega,(decide_eq_false (fun h=>(hnx.1 h).elim hno fun e=>e1 e.symm)).symm⟩,ent_of [] [] [] rfl (sk) (sk) rfl,by show drs.length - (k+1)<drs.length - k;omega⟩
    ·have hyes:r∈drs.take k:=of_decide_eq_true k2.symm
     refine vdraw_ot otT5 (by kernel_rfl) ?_
     refine⟨_,wrap_i64 (by omega) (by omega),?_⟩
     exact⟨(k+1,true),⟨by show k+1≤drs.length;omega,(decide_eq_true (hnx.2 (.inl hyes))).symm⟩,ent_of [] [] [] rfl (sk) (sk) rfl,by show drs.length - (k+1)<drs.length - k;omega⟩
   have m1:¬ (k:Int)<((drs.map Rf.cells).length:Nat):=m1
   rw [List.length_map] at m1
   rw [take_all (by omega)] at k2
   cases b
   ·have hno:¬ r∈drs:=of_decide_eq_false k2.symm
    rw [if_pos hno] at hR
    exact end1 _ rfl rfl (retI hR.symm)
   have hmem:r∈drs:=of_decide_eq_true k2.symm
   rw [if_neg (fun h=>h hmem)] at hR
   (first | refine brLt (fun md=>?_) (fun md=>?_) | refine brLe (fun md=>?_) (fun md=>?_) | refine brEq (fun md=>?_) (fun md=>?_))
   ·have md:r.mode=3:=md
    (first | refine brLt (fun o6=>?_) (fun o6=>?_) | refine brLe (fun o6=>?_) (fun o6=>?_) | refine brEq (fun o6=>?_) (fun o6=>?_))
    rotate_left
    ·have o6:¬ op=6:=o6
     rw [if_pos ⟨md,o6⟩] at hR
     exact end1 _ rfl rfl (retI hR.symm)
    have o6:op=6:=o6
    rw [if_neg (fun h=>h.2 o6)] at hR
    (first | refine brLt (fun o5=>?_) (fun o5=>?_) | refine brLe (fun o5=>?_) (fun o5=>?_) | refine brEq (fun o5=>?_) (fun o5=>?_))
    ·have o5:op=5:=o5
     obtain⟨m,hm⟩:∃ m:Nat,st.length=m+1:=⟨st.length - 1,by have:=hst o5;omega⟩
     have hm1:((st.map i64).length:Int) - 1=(m:Nat):=by rw [List.length_map];omega
     have hmd:st.length - 1=m:=by omega
     refine⟨((m:Nat):Int),by show _=IntKind.i64.wrap (((st.map i64).length:Nat) - 1:Int);rw [hm1];exact wrap_i64 (by omega) (by omega),?_⟩
     refine⟨_,⟨by omega,i64 (st.getD m 0),icell (by omega),rfl⟩,?_⟩
     refine hK.eq rfl ?_
     exact end1 _ rfl rfl (retI hR.symm)
    have o5:¬ op=5:=o5
    (first | refine brLt (fun p6=>?_) (fun p6=>?_) | refine brLe (fun p6=>?_) (fun p6=>?_) | refine brEq (fun p6=>?_) (fun p6=>?_))
    ·have p6:op=6:=p6
     refine hK.eq rfl ?_
     exact end1 _ rfl rfl (retI hR.symm)
    have p6:¬ op=6:=p6
    refine hK.eq rfl ?_
    exact end1 _ rfl rfl (retI hR.symm)
   have md:¬ r.mode=3:=md
   rw [if_neg (fun h=>md h.1)] at hR
   (first | refine brLt (fun o5=>?_) (fun o5=>?_) | refine brLe (fun o5=>?_) (fun o5=>?_) | refine brEq (fun o5=>?_) (fun o5=>?_))
   ·have o5:op=5:=o5
    obtain⟨m,hm⟩:∃ m:Nat,st.length=m+1:=⟨st.length - 1,by have:=hst o5;omega⟩
    have hm1:((st.map i64).length:Int) - 1=(m:Nat):=by rw [List.length_map];omega
    have hmd:st.length - 1=m:=by omega
    refine⟨((m:Nat):Int),by show _=IntKind.i64.wrap (((st.map i64).length:Nat) - 1:Int);rw [hm1];exact wrap_i64 (by omega) (by omega),?_⟩
    refine⟨_,⟨by omega,i64 (st.getD m 0),icell (by omega),rfl⟩,?_⟩
    refine hK.eq rfl ?_
    exact end1 _ rfl rfl (retI hR.symm)
   have o5:¬ op=5:=o5
   (first | refine brLt (fun p6=>?_) (fun p6=>?_) | refine brLe (fun p6=>?_) (fun p6=>?_) | refine brEq (fun p6=>?_) (fun p6=>?_))
   ·have p6:op=6:=p6
    refine hK.eq rfl ?_
    exact end1 _ rfl rfl (retI hR.symm)
   have p6:¬ op=6:=p6
   refine hK.eq rfl ?_
   exact end1 _ rfl rfl (retI hR.symm)
 | some t=>
  obtain⟨a,ha⟩:=fnd_some hn hv
  rw [ha] at hK
  rw [hv] at hR
  simp only [] at hR hK
  rw [skV,symOf] at hK
  by_cases k2:t.kind=2
  ·rw [if_pos k2] at hK
   simp only [if_pos k2] at hR
   try simp only [] at hK
   clear hv ha
   refine pure_of_vc Tryz.func121 rfl rfl rfl ?_
   refine⟨Nat × Bool,fun x=>[(0, .p (des l)),(4, .ptr 0 0 0),(5, .ptr 1 0 0),(7, .p (.bool x.2)),(8, .p (i64 x.1))],fun _=>⟨2,[(1,cnO (.mk op n rel val r st ar)),(0,dcO ⟨dk,dn,dnm,dpl,drs,dcs⟩)]⟩,fun x=>x.1≤drs.length∧x.2=decide (r∈drs.take x.1),fun x=>drs.length - x.1,?_,?_⟩
   ·exact⟨(0,false),⟨Nat.zero_le _,by simp⟩,ent_of [] [] [] rfl (sk) (sk) rfl⟩
   rintro⟨k,b⟩ ⟨k1,k2⟩
   simp only [] at k1 k2
   (first | refine brLt (fun m1=>?_) (fun m1=>?_) | refine brLe (fun m1=>?_) (fun m1=>?_) | refine brEq (fun m1=>?_) (fun m1=>?_))
   ·have m1:(k:Int)<((drs.map Rf.cells).length:Nat):=m1
    rw [List.length_map] at m1
    have hk:k<drs.length:=by omega
    have hcell:=rcell hk
    have hnx:(r∈drs.take (k+1)) ↔ (r∈drs.take k∨r=drs.getD k rf0):=by rw [take_succ_getD rf0 hk,List.mem_append,List.mem_singleton]
    generalize drs.getD k rf0=x at hcell hnx
    cases b
    ·refine vdraw_ot otT5 (by kernel_rfl) ?_
     refine⟨_,⟨by omega,x.cells,hcell,rfl⟩,?_⟩
     refine⟨⟨by kernel_rfl,by kernel_rfl⟩,fun e1=>?_,fun e1=>?_⟩
     ·have e1:x=r:=rf_ext (by first | exact e1 | (injection e1))
      refine⟨_,wrap_i64 (by omega) (by omega),?_⟩
      exact⟨(k+1,true),⟨by show k+1≤drs.length;omega,(decide_eq_true (hnx.2 (.inr e1.symm))).symm⟩,ent_of [] [] [] rfl (sk) (sk) rfl,by show drs.length - (k+1)<drs.length - k;omega⟩
     ·have e1:¬ x=r:=fun e=>e1 (by rw [e])
      have hno:¬ r∈drs.take k:=of_decide_eq_false k2.symm
      refine⟨_,wrap_i64 (by omega) (by omega),?_⟩
      exact⟨(k+1,false),⟨by show k+1≤drs.length;omega,(decide_eq_false (fun h=>(hnx.1 h).elim hno fun e=>e1 e.symm)).symm⟩,ent_of [] [] [] rfl (sk) (sk) rfl,by show drs.length - (k+1)<drs.length - k;omega⟩
    ·have hyes:r∈drs.take k:=of_decide_eq_true k2.symm
     refine vdraw_ot otT5 (by kernel_rfl) ?_
     refine⟨_,wrap_i64 (by omega) (by omega),?_⟩
     exact⟨(k+1,true),⟨by show k+1≤drs.length;omega,(decide_eq_true (hnx.2 (.inl hyes))).symm⟩,ent_of [] [] [] rfl (sk) (sk) rfl,by show drs.length - (k+1)<drs.length - k;omega⟩
   have m1:¬ (k:Int)<((drs.map Rf.cells).length:Nat):=m1
   rw [List.length_map] at m1
   rw [take_all (by omega)] at k2
   cases b
   ·have hno:¬ r∈drs:=of_decide_eq_false k2.symm
    rw [if_pos hno] at hR
    exact end1 _ rfl rfl (retI hR.symm)
   have hmem:r∈drs:=of_decide_eq_true k2.symm
   rw [if_neg (fun h=>h hmem)] at hR
   (first | refine brLt (fun md=>?_) (fun md=>?_) | refine brLe (fun md=>?_) (fun md=>?_) | refine brEq (fun md=>?_) (fun md=>?_))
   ·have md:r.mode=3:=md
    (first | refine brLt (fun o6=>?_) (fun o6=>?_) | refine brLe (fun o6=>?_) (fun o6=>?_) | refine brEq (fun o6=>?_) (fun o6=>?_))
    rotate_left
    ·have o6:¬ op=6:=o6
     rw [if_pos ⟨md,o6⟩] at hR
     exact end1 _ rfl rfl (retI hR.symm)
    have o6:op=6:=o6
    rw [if_neg (fun h=>h.2 o6)] at hR
    (first | refine brLt (fun o5=>?_) (fun o5=>?_) | refine brLe (fun o5=>?_) (fun o5=>?_) | refine brEq (fun o5=>?_) (fun o5=>?_))
    ·have o5:op=5:=o5
     obtain⟨m,hm⟩:∃ m:Nat,st.length=m+1:=⟨st.length - 1,by have:=hst o5;omega⟩
     have hm1:((st.map i64).length:Int) - 1=(m:Nat):=by rw [List.length_map];omega
     have hmd:st.length - 1=m:=by omega
     refine⟨((m:Nat):Int),by show _=IntKind.i64.wrap (((st.map i64).length:Nat) - 1:Int);rw [hm1];exact wrap_i64 (by omega) (by omega),?_⟩
     refine⟨_,⟨by omega,i64 (st.getD m 0),icell (by omega),rfl⟩,?_⟩
     refine hK.eq rfl ?_
     refine And.intro (fun _=>?_) (fun h=>absurd rfl h)
     exact end1 _ rfl rfl (retI hR.symm)
    have o5:¬ op=5:=o5
    (first | refine brLt (fun p6=>?_) (fun p6=>?_) | refine brLe (fun p6=>?_) (fun p6=>?_) | refine brEq (fun p6=>?_) (fun p6=>?_))
    ·have p6:op=6:=p6
     refine hK.eq rfl ?_
     refine And.intro (fun _=>?_) (fun h=>absurd rfl h)
     exact end1 _ rfl rfl (retI hR.symm)
    have p6:¬ op=6:=p6
    refine hK.eq rfl ?_
    refine And.intro (fun _=>?_) (fun h=>absurd rfl h)
    exact end1 _ rfl rfl (retI hR.symm)
   have md:¬ r.mode=3:=md
   rw [if_neg (fun h=>md h.1)] at hR
   (first | refine brLt (fun o5=>?_) (fun o5=>?_) | refine brLe (fun o5=>?_) (fun o5=>?_) | refine brEq (fun o5=>?_) (fun o5=>?_))
   ·have o5:op=5:=o5
    obtain⟨m,hm⟩:∃ m:Nat,st.length=m+1:=⟨st.length - 1,by have:=hst o5;omega⟩
    have hm1:((st.map i64).length:Int) - 1=(m:Nat):=by rw [List.length_map];omega
    have hmd:st.length - 1=m:=by omega
    refine⟨((m:Nat):Int),by show _=IntKind.i64.wrap (((st.map i64).length:Nat) - 1:Int);rw [hm1];exact wrap_i64 (by omega) (by omega),?_⟩
    refine⟨_,⟨by omega,i64 (st.getD m 0),icell (by omega),rfl⟩,?_⟩
    refine hK.eq rfl ?_
    refine And.intro (fun _=>?_) (fun h=>absurd rfl h)
    exact end1 _ rfl rfl (retI hR.symm)
   have o5:¬ op=5:=o5
   (first | refine brLt (fun p6=>?_) (fun p6=>?_) | refine brLe (fun p6=>?_) (fun p6=>?_) | refine brEq (fun p6=>?_) (fun p6=>?_))
   ·have p6:op=6:=p6
    refine hK.eq rfl ?_
    refine And.intro (fun _=>?_) (fun h=>absurd rfl h)
    exact end1 _ rfl rfl (retI hR.symm)
   have p6:¬ op=6:=p6
   refine hK.eq rfl ?_
   refine And.intro (fun _=>?_) (fun h=>absurd rfl h)
   exact end1 _ rfl rfl (retI hR.symm)
  ·rw [if_neg k2] at hK
   simp only [if_neg k2] at hR
   try simp only [] at hK
   generalize (if t.plate=[] then 1 else sizeV a t.plate)=sz at hK
   obtain⟨tk,kk,tnm,tpl,trs,tcs⟩:=t
   simp only [] at hR hK k2
   have hk2:=k2
   clear hv ha k2
   refine pure_of_vc Tryz.func121 rfl rfl rfl ?_
   refine⟨Nat × Bool,fun x=>[(0, .p (des l)),(4, .ptr 0 0 0),(5, .ptr 1 0 0),(7, .p (.bool x.2)),(8, .p (i64 x.1))],fun _=>⟨2,[(1,cnO (.mk op n rel val r st ar)),(0,dcO ⟨dk,dn,dnm,dpl,drs,dcs⟩)]⟩,fun x=>x.1≤drs.length∧x.2=decide (r∈drs.take x.1),fun x=>drs.length - x.1,?_,?_⟩
   ·exact⟨(0,false),⟨Nat.zero_le _,by simp⟩,ent_of [] [] [] rfl (sk) (sk) rfl⟩
   rintro⟨k,b⟩ ⟨k1,k2⟩
   simp only [] at k1 k2
   (first | refine brLt (fun m1=>?_) (fun m1=>?_) | refine brLe (fun m1=>?_) (fun m1=>?_) | refine brEq (fun m1=>?_) (fun m1=>?_))
   ·have m1:(k:Int)<((drs.map Rf.cells).length:Nat):=m1
    rw [List.length_map] at m1
    have hk:k<drs.length:=by omega
    have hcell:=rcell hk
    have hnx:(r∈drs.take (k+1)) ↔ (r∈drs.take k∨r=drs.getD k rf0):=by rw [take_succ_getD rf0 hk,List.mem_append,List.mem_singleton]
    generalize drs.getD k rf0=x at hcell hnx
    cases b
    ·refine vdraw_ot otT5 (by kernel_rfl) ?_
     refine⟨_,⟨by omega,x.cells,hcell,rfl⟩,?_⟩
     refine⟨⟨by kernel_rfl,by kernel_rfl⟩,fun e1=>?_,fun e1=>?_⟩
     ·have e1:x=r:=rf_ext (by first | exact e1 | (injection e1))
      refine⟨_,wrap_i64 (by omega) (by omega),?_⟩
      exact⟨(k+1,true),⟨by show k+1≤drs.length;omega,(decide_eq_true (hnx.2 (.inr e1.symm))).symm⟩,ent_of [] [] [] rfl (sk) (sk) rfl,by show drs.length - (k+1)<drs.length - k;omega⟩
     ·have e1:¬ x=r:=fun e=>e1 (by rw [e])
      have hno:¬ r∈drs.take k:=of_decide_eq_false k2.symm
      refine⟨_,wrap_i64 (by omega) (by omega),?_⟩
      exact⟨(k+1,false),⟨by show k+1≤drs.length;omega,(decide_eq_false (fun h=>(hnx.1 h).elim hno fun e=>e1 e.symm)).symm⟩,ent_of [] [] [] rfl (sk) (sk) rfl,by show drs.length - (k+1)<drs.length - k;omega⟩
    ·have hyes:r∈drs.take k:=of_decide_eq_true k2.symm
     refine vdraw_ot otT5 (by kernel_rfl) ?_
     refine⟨_,wrap_i64 (by omega) (by omega),?_⟩
     exact⟨(k+1,true),⟨by show k+1≤drs.length;omega,(decide_eq_true (hnx.2 (.inl hyes))).symm⟩,ent_of [] [] [] rfl (sk) (sk) rfl,by show drs.length - (k+1)<drs.length - k;omega⟩
   have m1:¬ (k:Int)<((drs.map Rf.cells).length:Nat):=m1
   rw [List.length_map] at m1
   rw [take_all (by omega)] at k2
   cases b
   ·have hno:¬ r∈drs:=of_decide_eq_false k2.symm
    rw [if_pos hno] at hR
    exact end1 _ rfl rfl (retI hR.symm)
   have hmem:r∈drs:=of_decide_eq_true k2.symm
   rw [if_neg (fun h=>h hmem)] at hR
   (first | refine brLt (fun md=>?_) (fun md=>?_) | refine brLe (fun md=>?_) (fun md=>?_) | refine brEq (fun md=>?_) (fun md=>?_))
   ·have md:r.mode=3:=md
    (first | refine brLt (fun o6=>?_) (fun o6=>?_) | refine brLe (fun o6=>?_) (fun o6=>?_) | refine brEq (fun o6=>?_) (fun o6=>?_))
    rotate_left
    ·have o6:¬ op=6:=o6
     rw [if_pos ⟨md,o6⟩] at hR
     exact end1 _ rfl rfl (retI hR.symm)
    have o6:op=6:=o6
    rw [if_neg (fun h=>h.2 o6)] at hR
    (first | refine brLt (fun o5=>?_) (fun o5=>?_) | refine brLe (fun o5=>?_) (fun o5=>?_) | refine brEq (fun o5=>?_) (fun o5=>?_))
    ·have o5:op=5:=o5
     obtain⟨m,hm⟩:∃ m:Nat,st.length=m+1:=⟨st.length - 1,by have:=hst o5;omega⟩
     have hm1:((st.map i64).length:Int) - 1=(m:Nat):=by rw [List.length_map];omega
     have hmd:st.length - 1=m:=by omega
     refine⟨((m:Nat):Int),by show _=IntKind.i64.wrap (((st.map i64).length:Nat) - 1:Int);rw [hm1];exact wrap_i64 (by omega) (by omega),?_⟩
     refine⟨_,⟨by omega,i64 (st.getD m 0),icell (by omega),rfl⟩,?_⟩
     have hg:gstI op n val st=st.getD m 0:=by rw [gstI,if_pos o5,hmd]
     refine hK.eq rfl ?_
     refine And.intro (fun h=>absurd h hk2) (fun _=>?_)
     (first | refine brLt (fun w1=>?_) (fun w1=>?_) | refine brLe (fun w1=>?_) (fun w1=>?_) | refine brEq (fun w1=>?_) (fun w1=>?_))
     ·have w1:kk≤st.getD m 0:=w1
      exact end1 _ rfl rfl (retI (by rw [hR,hg,if_pos w1]))
     ·have w1:¬ kk≤st.getD m 0:=w1
      exact end1 _ rfl rfl (retI (by rw [hR,hg,if_neg w1]))
    have o5:¬ op=5:=o5
    (first | refine brLt (fun p6=>?_) (fun p6=>?_) | refine brLe (fun p6=>?_) (fun p6=>?_) | refine brEq (fun p6=>?_) (fun p6=>?_))
    ·have p6:op=6:=p6
     have hg:gstI op n val st=val:=by rw [gstI,if_neg o5,if_pos p6]
     refine hK.eq rfl ?_
     refine And.intro (fun h=>absurd h hk2) (fun _=>?_)
     (first | refine brLt (fun w1=>?_) (fun w1=>?_) | refine brLe (fun w1=>?_) (fun w1=>?_) | refine brEq (fun w1=>?_) (fun w1=>?_))
     ·have w1:kk≤val:=w1
      exact end1 _ rfl rfl (retI (by rw [hR,hg,if_pos w1]))
     ·have w1:¬ kk≤val:=w1
      exact end1 _ rfl rfl (retI (by rw [hR,hg,if_neg w1]))
    have p6:¬ op=6:=p6
    have hg:gstI op n val st=n:=by rw [gstI,if_neg o5,if_neg p6]
    refine hK.eq rfl ?_
    refine And.intro (fun h=>absurd h hk2) (fun _=>?_)
    (first | refine brLt (fun w1=>?_) (fun w1=>?_) | refine brLe (fun w1=>?_) (fun w1=>?_) | refine brEq (fun w1=>?_) (fun w1=>?_))
    ·have w1:kk≤n:=w1
     exact end1 _ rfl rfl (retI (by rw [hR,hg,if_pos w1]))
    ·have w1:¬ kk≤n:=w1
     exact end1 _ rfl rfl (retI (by rw [hR,hg,if_neg w1]))
   have md:¬ r.mode=3:=md
   rw [if_neg (fun h=>md h.1)] at hR
   (first | refine brLt (fun o5=>?_) (fun o5=>?_) | refine brLe (fun o5=>?_) (fun o5=>?_) | refine brEq (fun o5=>?_) (fun o5=>?_))
   ·have o5:op=5:=o5
    obtain⟨m,hm⟩:∃ m:Nat,st.length=m+1:=⟨st.length - 1,by have:=hst o5;omega⟩
    have hm1:((st.map i64).length:Int) - 1=(m:Nat):=by rw [List.length_map];omega
    have hmd:st.length - 1=m:=by omega
    refine⟨((m:Nat):Int),by show _=IntKind.i64.wrap (((st.map i64).length:Nat) - 1:Int);rw [hm1];exact wrap_i64 (by omega) (by omega),?_⟩
    refine⟨_,⟨by omega,i64 (st.getD m 0),icell (by omega),rfl⟩,?_⟩
    have hg:gstI op n val st=st.getD m 0:=by rw [gstI,if_pos o5,hmd]
    refine hK.eq rfl ?_
    refine And.intro (fun h=>absurd h hk2) (fun _=>?_)
    (first | refine brLt (fun w1=>?_) (fun w1=>?_) | refine brLe (fun w1=>?_) (fun w1=>?_) | refine brEq (fun w1=>?_) (fun w1=>?_))
    ·have w1:kk≤st.getD m 0:=w1
     exact end1 _ rfl rfl (retI (by rw [hR,hg,if_pos w1]))
    ·have w1:¬ kk≤st.getD m 0:=w1
     exact end1 _ rfl rfl (retI (by rw [hR,hg,if_neg w1]))
   have o5:¬ op=5:=o5
   (first | refine brLt (fun p6=>?_) (fun p6=>?_) | refine brLe (fun p6=>?_) (fun p6=>?_) | refine brEq (fun p6=>?_) (fun p6=>?_))
   ·have p6:op=6:=p6
    have hg:gstI op n val st=val:=by rw [gstI,if_neg o5,if_pos p6]
    refine hK.eq rfl ?_
    refine And.intro (fun h=>absurd h hk2) (fun _=>?_)
    (first | refine brLt (fun w1=>?_) (fun w1=>?_) | refine brLe (fun w1=>?_) (fun w1=>?_) | refine brEq (fun w1=>?_) (fun w1=>?_))
    ·have w1:kk≤val:=w1
     exact end1 _ rfl rfl (retI (by rw [hR,hg,if_pos w1]))
    ·have w1:¬ kk≤val:=w1
     exact end1 _ rfl rfl (retI (by rw [hR,hg,if_neg w1]))
   have p6:¬ op=6:=p6
   have hg:gstI op n val st=n:=by rw [gstI,if_neg o5,if_neg p6]
   refine hK.eq rfl ?_
   refine And.intro (fun h=>absurd h hk2) (fun _=>?_)
   (first | refine brLt (fun w1=>?_) (fun w1=>?_) | refine brLe (fun w1=>?_) (fun w1=>?_) | refine brEq (fun w1=>?_) (fun w1=>?_))
   ·have w1:kk≤n:=w1
    exact end1 _ rfl rfl (retI (by rw [hR,hg,if_pos w1]))
   ·have w1:¬ kk≤n:=w1
    exact end1 _ rfl rfl (retI (by rw [hR,hg,if_neg w1]))
theorem scrrow_c (d:De) (nums:List Int) (g:Int) (hw:∀ x∈nums,-9999≤x∧x≤9999) (hl:nums.length≤100):Pure cx 95 [d.pv,ints nums,i64 g] (·=.ret [.bool (rowI d nums g)]):=by
 obtain⟨R,hR⟩:∃ R,R=rowI d nums g:=⟨_,rfl⟩
 rw [← hR]
 have hm:(nums.map i64).length=nums.length:=List.length_map ..
 obtain⟨dk,dn,dnm,dpl,drs,dcs⟩:=d
 by_cases hk:dk=5
 ·rw [rowI_gain hk] at hR
  refine pure_of_vc Tryz.func95 rfl rfl rfl ?_
  refine And.intro (fun _=>?_) (fun h=>absurd hk h)
  (first | refine brLt (fun h1=>?_) (fun h1=>?_) | refine brLe (fun h1=>?_) (fun h1=>?_) | refine brEq (fun h1=>?_) (fun h1=>?_))
  rotate_left
  ·have h1:¬ ((nums.map i64).length:Int)=1:=h1
   rw [hm] at h1
   exact end1 _ rfl rfl (retB (by rw [hR,decide_eq_false (show ¬ nums.length=1 by omega)];rfl))
  have h1:((nums.map i64).length:Int)=1:=h1
  rw [hm] at h1
  rw [decide_eq_true (show nums.length=1 by omega)] at hR
  have hc:=icell (l:=nums) (k:=0) (by omega)
  generalize nums.getD 0 0=x at hc hR
  refine⟨_,⟨by decide,i64 x,hc,rfl⟩,?_⟩
  (first | refine brLt (fun h2=>?_) (fun h2=>?_) | refine brLe (fun h2=>?_) (fun h2=>?_) | refine brEq (fun h2=>?_) (fun h2=>?_))
  rotate_left
  ·have h2:¬ -100≤x:=h2
   exact end1 _ rfl rfl (retB (by rw [hR,decide_eq_false h2];rfl))
  have h2:-100≤x:=h2
  refine⟨_,⟨by decide,i64 x,hc,rfl⟩,?_⟩
  (first | refine brLt (fun h3=>?_) (fun h3=>?_) | refine brLe (fun h3=>?_) (fun h3=>?_) | refine brEq (fun h3=>?_) (fun h3=>?_))
  ·have h3:x≤100:=h3
   exact end1 _ rfl rfl (retB (by rw [hR,decide_eq_true h2,decide_eq_true h3];rfl))
  ·have h3:¬ x≤100:=h3
   exact end1 _ rfl rfl (retB (by rw [hR,decide_eq_true h2,decide_eq_false h3];rfl))
 rw [rowI_node hk] at hR
 simp only [] at hR
 refine pure_of_vc Tryz.func95 rfl rfl rfl ?_
 refine And.intro (fun h=>absurd h hk) (fun _=>?_)
 refine⟨Nat,fun k=>[(1, .p (ints nums)),(2, .p (i64 g)),(3, .ptr 0 0 0),(7, .p (i64 (nums.take k).sum)),(8, .p (i64 k))],fun _=>⟨1,[(0,dcO ⟨dk,dn,dnm,dpl,drs,dcs⟩)]⟩,fun k=>k≤nums.length∧(∀ x∈nums.take k,0≤x)∧(nums.take k).sum≤9999 * k∧0≤(nums.take k).sum,fun k=>nums.length - k,?_,?_⟩
 ·exact⟨0,⟨Nat.zero_le _,by simp,by simp,by simp⟩,ent_of [] [] [] rfl (sk) (sk) rfl⟩
 rintro k ⟨k1,k2,k3,k4⟩
 (first | refine brLt (fun m1=>?_) (fun m1=>?_) | refine brLe (fun m1=>?_) (fun m1=>?_) | refine brEq (fun m1=>?_) (fun m1=>?_))
 ·have m1:(k:Int)<((nums.map i64).length:Nat):=m1
  rw [hm] at m1
  have hkk:k<nums.length:=by omega
  have hc:=icell hkk
  have hx:=hw _ (getD_memL 0 hkk)
  have hs:=sum_snoc nums k hkk
  have hmem:=getD_memL 0 hkk
  have hnx:∀ y∈nums.take (k+1),y=nums.getD k 0∨y∈nums.take k:=fun y hy=>by
   rw [take_succ_getD 0 hkk] at hy
   rcases List.mem_append.1 hy with hy | hy
   ·exact .inr hy
   ·exact .inl (List.mem_singleton.1 hy)
  generalize nums.getD k 0=x at hc hx hs hmem hnx
  refine⟨_,⟨by omega,i64 x,hc,rfl⟩,?_⟩
  (first | refine brLt (fun w1=>?_) (fun w1=>?_) | refine brLe (fun w1=>?_) (fun w1=>?_) | refine brEq (fun w1=>?_) (fun w1=>?_))
  ·have w1:x<0:=w1
   exact end1 _ rfl rfl (retB (by rw [hR,List.all_eq_false.2 ⟨x,hmem,by simp;omega⟩];rfl))
  have w1:¬ x<0:=w1
  refine⟨_,⟨by omega,i64 x,hc,rfl⟩,?_⟩
  refine⟨(nums.take (k+1)).sum,by rw [hs];exact wrap_i64 (by omega) (by omega),?_⟩
  refine⟨_,wrap_i64 (by omega) (by omega),?_⟩
  refine⟨k+1,⟨by omega,fun y hy=>?_,by rw [hs];omega,by rw [hs];omega⟩,ent_of [] [] [] rfl (sk) (sk) rfl,by show nums.length - (k+1)<nums.length - k;omega⟩
  rcases hnx y hy with rfl | hy
  ·omega
  ·exact k2 y hy
 have m1:¬ (k:Int)<((nums.map i64).length:Nat):=m1
 rw [hm] at m1
 rw [take_all (by omega)] at k2
 have ha:nums.all (fun w=>decide (0≤w))=true:=List.all_eq_true.2 fun x hx=>decide_eq_true (k2 x hx)
 rw [ha] at hR
 (first | refine brLt (fun e1=>?_) (fun e1=>?_) | refine brLe (fun e1=>?_) (fun e1=>?_) | refine brEq (fun e1=>?_) (fun e1=>?_))
 rotate_left
 ·have e1:¬ ((nums.map i64).length:Int)=dn:=e1
  rw [hm] at e1
  exact end1 _ rfl rfl (retB (by rw [hR,decide_eq_false e1];rfl))
 have e1:((nums.map i64).length:Int)=dn:=e1
 rw [hm] at e1
 rw [decide_eq_true e1] at hR
 (first | refine brLt (fun e2=>?_) (fun e2=>?_) | refine brLe (fun e2=>?_) (fun e2=>?_) | refine brEq (fun e2=>?_) (fun e2=>?_))
 ·have e2:(nums.take k).sum=g:=e2
  rw [take_all (by omega)] at e2
  exact end1 _ rfl rfl (retB (by rw [hR,decide_eq_true e2];rfl))
 ·have e2:¬ (nums.take k).sum=g:=e2
  rw [take_all (by omega)] at e2
  exact end1 _ rfl rfl (retB (by rw [hR,decide_eq_false e2];rfl))
theorem testI_nn (l:List De) (d:De) (op n val:Int) (r:Rf) (st:List Int):0≤testI l d op n val r st:=by
 unfold testI
 split
 ·decide
 ·split
  ·decide
  ·split
   ·split <;> decide
   ·decide
theorem refI_nn (l:List De) (d:De) (r:Rf):0≤refI l d r:=by
 unfold refI
 split
 ·split <;> decide
 ·split <;> decide
def lsQ (l:List Iss) (e:AE) (H':Hp):Prop:=e=.returned (.sl 1 3 0 l.length)∧H'=⟨2,[(1,isO l)]⟩
abbrev otC11:OT:=(.pure 0 (.pure 1 (.pure 2 (.pure 3 (.pure 4 (.pure 5 (.pure 6 (.pure 7 (.eff 8 [] (.pure 9 .fin) .nil)))))))))
theorem rcond_h (l:List De) (d:De) (hdr:d.refs.length≤100) (hl:l.length≤1000) (hok:∀ d∈l,OkD d):∀ (m:Nat) (c:Cd) (cur:List Iss),csz c≤m→WkOK c→(cur++condI l d c).length≤100000 →
  HoldsG cx 94 [.p (des l), .p d.pv, .p c.pv, .sl 0 3 0 cur.length] ⟨1,[(0,isO cur)]⟩ (lsQ (cur++condI l d c))
 | 0,c,_,hz,_,_=>by cases c;rw [csz] at hz;omega
 | m+1, .mk op n rel val r st ar,cur,hz,hw,hlen=>by
  have IH:=rcond_h l d hdr hl hok m
  rw [csz] at hz
  rw [WkOK] at hw
  obtain⟨⟨w1,w0⟩,w2,w3⟩:=hw
  have hcl:(cellsL ar).length=ar.length:=by rw [cellsL_map,List.length_map]
  have hm:(l.map De.cells).length=l.length:=List.length_map ..
  obtain⟨R,hR⟩:∃ R,R=cur++condI l d (.mk op n rel val r st ar):=⟨_,rfl⟩
  rw [← hR] at hlen ⊢
  by_cases hn:ar=[]
  ·subst hn
   rw [condI] at hR
   by_cases o0:op=0
   ·rw [if_pos o0,List.append_nil] at hR
    obtain⟨dk,dn,dnm,dpl,drs,dcs⟩:=d
    refine holdsN_of_vc Tryz.func94 rfl rfl rfl ?_
    refine And.intro (fun _=>?_) (fun h=>absurd o0 h)
    exact⟨[],[(1,0)],[], .returned (.sl 1 3 0 (cur).length),⟨2,[(1,isO (cur))]⟩,rfl,sk,sk,by rw [hR],by rw [hR]⟩
   ·rw [if_neg o0] at hR
    have hw:=(w1 rfl).resolve_left o0
    have hT:=scrtest_c l d (op:=op) (n:=n) (rel:=rel) (val:=val) (r:=r) (st:=st) (ar:=[]) hw.1 hw.2.1 hw.2.2 hdr hl hok
    have hnn:=testI_nn l d op n val r st
    have hc1:cur.length≤100000:=by rw [hR,List.length_append] at hlen;omega
    generalize testI l d op n val r st=kk at hT hR hnn
    obtain⟨dk,dn,dnm,dpl,drs,dcs⟩:=d
    refine holdsN_of_vc Tryz.func94 rfl rfl rfl ?_
    refine And.intro (fun h=>absurd h o0) (fun _=>?_)
    refine And.intro (fun _=>?_) (fun h=>absurd rfl h)
    refine hT.eq rfl ?_
    (first | refine brLt (fun z=>?_) (fun z=>?_) | refine brLe (fun z=>?_) (fun z=>?_) | refine brEq (fun z=>?_) (fun z=>?_))
    ·have z:0<kk:=z
     rw [noteI,if_neg (by omega)] at hR
     refine⟨by show 0+1≤1;omega,[Iss.cells (Iss.mk kk ((l.map De.cells).length:Nat) r.name)],rfl,?_⟩
     refine⟨by show 0+cur.length≤(cur.map Iss.cells).length;simp,cur.map Iss.cells,takeAll (by simp),by show(cur.length+1) * 32≤140737488355328;omega,(cur++[Iss.mk kk ((l.map De.cells).length:Nat) r.name]).map Iss.cells,by rw [List.map_append];rfl,?_⟩
     exact⟨[],[(1,4)],[], .returned (.sl 1 3 0 (cur++[Iss.mk kk ((l.map De.cells).length:Nat) r.name]).length),⟨2,[(1,isO (cur++[Iss.mk kk ((l.map De.cells).length:Nat) r.name]))]⟩,rfl,⟨_,rfl,congrArg (fun j:Nat=>AV.sl 4 3 0 j) (snoc_len cur _).symm⟩,sk,by rw [hR,hm],by rw [hR,hm]⟩
    ·have z:¬ 0<kk:=z
     rw [noteI,if_pos (by omega),List.append_nil] at hR
     exact⟨[],[(1,0)],[], .returned (.sl 1 3 0 (cur).length),⟨2,[(1,isO (cur))]⟩,rfl,sk,sk,by rw [hR],by rw [hR]⟩
  have o0:¬ op=0:=fun e=>hn (w0 e)
  have hC1:condI l d (.mk op n rel val r st ar)=condIs l d ar:=by
   cases ar with
   | nil=>exact absurd rfl hn
   | cons x ar=>rw [condI,condIs]
  have hpos:¬ ar.length=0:=fun e=>hn (List.eq_nil_of_length_eq_zero e)
  rw [hC1] at hR
  obtain⟨dk,dn,dnm,dpl,drs,dcs⟩:=d
  refine holdsN_of_vc Tryz.func94 rfl rfl rfl ?_
  refine And.intro (fun h=>absurd h o0) (fun _=>?_)
  refine And.intro (fun h=>absurd (show((cellsL ar).length:Int)=0 from h) (by rw [hcl];omega)) (fun _=>?_)
  refine⟨Nat × List Iss,fun x=>[(0, .p (des l)),(3, .sl 1 3 0 x.2.length),(5, .ptr 2 0 0),(6, .ptr 3 0 0),(10, .p (i64 x.1))],fun x=>⟨4,[(3,cnO (.mk op n rel val r st ar)),(2,dcO ⟨dk,dn,dnm,dpl,drs,dcs⟩),(1,isO x.2)]⟩,fun x=>x.1≤ar.length∧x.2++condIs l ⟨dk,dn,dnm,dpl,drs,dcs⟩ (ar.drop x.1)=R,fun x=>ar.length - x.1,?_,?_⟩
  ·exact⟨(0,cur),⟨Nat.zero_le _,hR.symm⟩,ent_of [] [(1,0),(2,1),(3,2)] [] rfl (sk) (sk) rfl⟩
  rintro⟨k,cu⟩ ⟨k1,k2⟩
  simp only [] at k1 k2
  (first | refine brLt (fun m1=>?_) (fun m1=>?_) | refine brLe (fun m1=>?_) (fun m1=>?_) | refine brEq (fun m1=>?_) (fun m1=>?_))
  rotate_left
  ·have m1:¬ (k:Int)<((cellsL ar).length:Nat):=m1
   rw [hcl] at m1
   rw [List.drop_eq_nil_of_le (by omega),condIs,List.append_nil] at k2
   exact⟨[],[(1,1)],[], .returned (.sl 1 3 0 (cu).length),⟨2,[(1,isO (cu))]⟩,rfl,sk,sk,by rw [← k2],by rw [← k2]⟩
  have m1:(k:Int)<((cellsL ar).length:Nat):=m1
  rw [hcl] at m1
  have hk:k<ar.length:=by omega
  have hcell:(cellsL ar)[k]?=some (ar.getD k cd0).cells:=by rw [cellsL_map];exact ccell hk
  have hmem:=getD_memL cd0 hk
  have hsz:=csz_mem hmem
  have hxw:=wkOKs_mem w3 hmem
  rw [dropD cd0 hk,condIs,← List.append_assoc] at k2
  have hlen2:(cu++condI l ⟨dk,dn,dnm,dpl,drs,dcs⟩ (ar.getD k cd0)).length≤100000:=by rw [← k2,List.length_append] at hlen;omega
  generalize ar.getD k cd0=x at hcell hsz hxw k2 hlen2
  obtain⟨xo,xn,xr,xv,xf,xs,xa⟩:=x
  refine vdraw_ot otC11 (by kernel_rfl) ?_
  refine⟨_,⟨by omega,(Cd.mk xo xn xr xv xf xs xa).cells,hcell,rfl⟩,?_⟩
  refine(IH (.mk xo xn xr xv xf xs xa) cu (by omega) hxw hlen2).holds.useT [] [(0,1)] rfl (sk) (sk) fun e0 H0 hq=>?_
  obtain⟨rfl,rfl⟩:=hq
  generalize cu++condI l ⟨dk,dn,dnm,dpl,drs,dcs⟩ (.mk xo xn xr xv xf xs xa)=nxt at k2 hlen2 ⊢
  refine⟨rfl,_,⟨5,(4,isO nxt)::[(3,cnO (.mk op n rel val r st ar)),(2,dcO ⟨dk,dn,dnm,dpl,drs,dcs⟩)]⟩,rfl,rfl,?_⟩
  refine⟨_,wrap_i64 (by omega) (by omega),?_⟩
  exact⟨(k+1,nxt),⟨by show k+1≤ar.length;omega,k2⟩,ent_of [] [(1,4),(2,2),(3,3)] [] rfl (sk) (sk) rfl,by show ar.length - (k+1)<ar.length - k;omega⟩
def sizeI (l:List De) (d:De):List Iss:=if d.n<1∨6<d.n then [⟨5,l.length,d.name⟩] else []
def preI (l:List De) (d:De):List Iss:=if d.kind=2 then twiceI l d++sizeI l d else if d.kind=3 then twiceI l d++(plateI l d++cardI l d) else if d.kind=4 then twiceI l d++cardI l d else []
theorem preI_len (l:List De) (d:De):(preI l d).length≤3:=by
 have h3:(twiceI l d).length≤1:=by unfold twiceI;split <;> simp
 have h4:(cardI l d).length≤1:=by unfold cardI;split <;> simp
 have h5:(plateI l d).length≤1:=by unfold plateI;repeat' (first | (split;rotate_left) | simp)
 have h6:(sizeI l d).length≤1:=by unfold sizeI;split <;> simp
 unfold preI
 repeat' split
 all_goals simp only [List.length_append,List.length_nil]
 all_goals omega
theorem found_cases (l:List De) {nm:List UInt8} (hn:nm ≠ []) (hl:l.length≤1000) (hok:∀ d∈l,OkD d):(fstV l nm=none∧Pure cx 34 [des l, .str nm] (·=.ret [.agg [.str [],i64 0, .str [],i64 0,i64 0], .bool false])) ∨
  ∃ (t:De) (y1:List UInt8) (y2:Int) (y3:List UInt8) (y4 y5:Int),fstV l nm=some t∧y2=t.kind∧Pure cx 34 [des l, .str nm] (·=.ret [.agg [.str y1,i64 y2, .str y3,i64 y4,i64 y5], .bool true]):=by
 have hF:=found_c l nm hl hok
 rw [fndV] at hF
 cases hv:fstV l nm with
 | none=>
  rw [fnd_none hv] at hF
  exact .inl ⟨rfl,hF⟩
 | some t=>
  obtain⟨a,ha⟩:=fnd_some hn hv
  rw [ha] at hF
  refine .inr ⟨t,(symOf a t).name,(symOf a t).kind,(symOf a t).plate,(symOf a t).card,(symOf a t).size,rfl,?_,hF⟩
  rw [symOf]
  by_cases h:t.kind=2
  ·rw [if_pos h,h]
  ·rw [if_neg h]
theorem twice_cases (l:List De) {d:De} (hn:d.name ≠ []) (hl:l.length≤1000) (hok:∀ d∈l,OkD d):(twiceI l d=[]∧Pure cx 34 [des l, .str d.name] (·=.ret [.agg [.str [],i64 0, .str [],i64 0,i64 0], .bool false])) ∨
  ∃ (y1:List UInt8) (y2:Int) (y3:List UInt8) (y4 y5:Int),twiceI l d=[Iss.mk 2 ((l.map De.cells).length:Nat) d.name]∧Pure cx 34 [des l, .str d.name] (·=.ret [.agg [.str y1,i64 y2, .str y3,i64 y4,i64 y5], .bool true]):=by
 rcases found_cases l hn hl hok with ⟨h1,h2⟩ | ⟨t,y1,y2,y3,y4,y5,h1,h2,h3⟩
 ·refine .inl ⟨?_,h2⟩
  rw [twiceI,fst_isSome,h1];rfl
 ·refine .inr ⟨y1,y2,y3,y4,y5,?_,h3⟩
  rw [twiceI,fst_isSome,h1,List.length_map];rfl
theorem plate_cases (l:List De) (d:De) (hl:l.length≤1000) (hok:∀ d∈l,OkD d):(d.plate=[]∧plateI l d=[])∨(¬ d.plate=[]∧((plateI l d=[Iss.mk 3 ((l.map De.cells).length:Nat) d.plate]∧Pure cx 34 [des l, .str d.plate] (·=.ret [.agg [.str [],i64 0, .str [],i64 0,i64 0], .bool false])) ∨
  ∃ (y1:List UInt8) (y2:Int) (y3:List UInt8) (y4 y5:Int),(plateI l d=[]∧Pure cx 34 [des l, .str d.plate] (·=.ret [.agg [.str y1,i64 y2, .str y3,i64 y4,i64 y5], .bool true])∧y2=2)∨(plateI l d=[Iss.mk 4 ((l.map De.cells).length:Nat) d.plate]∧Pure cx 34 [des l, .str d.plate] (·=.ret [.agg [.str y1,i64 y2, .str y3,i64 y4,i64 y5], .bool true])∧¬ y2=2))):=by
 by_cases hp:d.plate=[]
 ·exact .inl ⟨hp,by rw [plateI,if_pos hp]⟩
 refine .inr ⟨hp,?_⟩
 rcases found_cases l hp hl hok with ⟨h1,h2⟩ | ⟨t,y1,y2,y3,y4,y5,h1,h2,h3⟩
 ·refine .inl ⟨?_,h2⟩
  rw [plateI,if_neg hp,h1,List.length_map]
 ·refine .inr ⟨y1,y2,y3,y4,y5,?_⟩
  by_cases hk:t.kind=2
  ·refine .inl ⟨?_,h3,h2.trans hk⟩
   rw [plateI,if_neg hp,h1]
   simp only [if_pos hk]
  ·refine .inr ⟨?_,h3,fun e=>hk (h2.symm.trans e)⟩
   rw [plateI,if_neg hp,h1,List.length_map]
   simp only [if_neg hk]
abbrev otO27:OT:=(.pure 0 (.pure 1 (.pure 2 (.pure 3 (.pure 4 (.pure 5 (.pure 6 (.pure 7 (.pure 8 (.pure 9 (.pure 10 (.pure 11 (.pure 12 (.pure 13 (.pure 14 .fin)))))))))))))))
abbrev otO30:OT:=(.pure 0 (.pure 1 (.pure 2 (.pure 3 (.pure 4 (.pure 5 (.pure 6 (.eff 7 [] (.pure 8 .fin) .nil))))))))
abbrev otO36:OT:=(.pure 0 (.pure 1 (.pure 2 (.pure 3 (.pure 4 (.pure 5 (.pure 6 (.pure 7 (.pure 8 (.eff 9 [] (.pure 10 .fin) .nil))))))))))
abbrev otO37:OT:=(.pure 0 (.pure 1 (.pure 2 (.pure 3 (.pure 4 (.pure 5 (.pure 6 (.pure 7 (.eff 8 [] (.pure 9 .fin) .nil)))))))))
theorem rone_5 (l:List De) (dn:Int) (dnm dpl:List UInt8) (drs:List Rf) (dcs:List Cs) (g:Int) (hd:DcV ⟨5,dn,dnm,dpl,drs,dcs⟩) (hl:l.length≤1000) (hok:∀ d∈l,OkD d):Pure cx 56 [des l,(De.mk 5 dn dnm dpl drs dcs).pv,i64 g] (·=.ret [isl (preI l ⟨5,dn,dnm,dpl,drs,dcs⟩++(refsI l ⟨5,dn,dnm,dpl,drs,dcs⟩ [] drs++casesI l ⟨5,dn,dnm,dpl,drs,dcs⟩ g dcs))]):=by
 have hm:(l.map De.cells).length=l.length:=List.length_map ..
 have hdr:drs.length≤8:=hd.refs
 have hcs:dcs.length≤12:=hd.few
 have hca:∀ c∈dcs,CaV c:=hd.cases
 have hrn:∀ r∈drs,r.name ≠ []:=hd.ok.ok.refs
 have hbare:(5:Int)=1∨(5:Int)=5→dnm=[]:=hd.ok.ok.bare
 have hname:(5:Int)=2∨(5:Int)=3∨(5:Int)=4→dnm ≠ []:=hd.ok.ok.name
 have hplate:¬ (5:Int)=3→dpl=[]:=hd.ok.ok.plate
 have t1:=preI_len l ⟨5,dn,dnm,dpl,drs,dcs⟩
 have t2:=refsI_len l ⟨5,dn,dnm,dpl,drs,dcs⟩ drs []
 have t3:=casesI_len l ⟨5,dn,dnm,dpl,drs,dcs⟩ g dcs hca
 have hpl:=hplate (by decide)
 obtain⟨dum,hpre5⟩:∃ dum:List Iss,dum=[]:=⟨_,rfl⟩
 have hpre:preI l ⟨5,dn,dnm,dpl,drs,dcs⟩=dum:=by rw [hpre5];rfl
 have hT0:=found_c l dnm hl hok
 rw [fndV,fnd,if_pos (hbare (.inr rfl))] at hT0
 refine pure_of_vc Tryz.func56 rfl rfl rfl ?_
 apply cut
 case h=>
  intro key
  refine And.intro (fun h=>absurd (show(5:Int)=1 from h) (by decide)) (fun _=>?_)
  refine hT0.eq rfl ?_
  refine And.intro (fun h=>absurd (show(5:Int)=2 from h) (by decide)) (fun _=>?_)
  refine And.intro (fun _=>?_) (fun h=>absurd hpl h)
  refine And.intro (fun h=>absurd (show(5:Int)=3 from h) (by decide)) (fun _=>?_)
  refine And.intro (fun h=>absurd (show(5:Int)=4 from h) (by decide)) (fun _=>?_)
  exact⟨Nat × List Iss,(fun x=>[(0, .p (des l)),(2, .p (i64 g)),(4, .ptr 0 0 0),(7, .sl 1 3 0 x.2.length),(8, .p (i64 (l.map De.cells).length)),(13, .p (i64 x.1))]),(fun x=>⟨2,[(1,isO x.2),(0,dcO ⟨5,dn,dnm,dpl,drs,dcs⟩)]⟩),(fun x=>x.1≤drs.length∧x.2++refsI l ⟨5,dn,dnm,dpl,drs,dcs⟩ (drs.take x.1) (drs.drop x.1)=preI l ⟨5,dn,dnm,dpl,drs,dcs⟩++refsI l ⟨5,dn,dnm,dpl,drs,dcs⟩ [] drs),(fun x=>drs.length - x.1),⟨(0,[]),⟨Nat.zero_le _,by show []++_=_;rw [hpre,hpre5];rfl⟩,ent_of [] [] [(1,3)] rfl (sk) (sk) rfl⟩,key.get⟩
 case k=>
  rintro⟨k,cur⟩ ⟨k1,k2⟩
  simp only [] at k1 k2
  have hcl:cur.length≤400:=by
   have e:=congrArg List.length k2
   rw [List.length_append,List.length_append] at e
   omega
  (first | refine brLt (fun m1=>?_) (fun m1=>?_) | refine brLe (fun m1=>?_) (fun m1=>?_) | refine brEq (fun m1=>?_) (fun m1=>?_))
  rotate_left
  ·have m1:¬ (k:Int)<((drs.map Rf.cells).length:Nat):=m1
   rw [List.length_map] at m1
   rw [List.drop_eq_nil_of_le (by omega),refsI,List.append_nil] at k2
   refine⟨Nat × List Iss,fun x=>[(0, .p (des l)),(2, .p (i64 g)),(4, .ptr 0 0 0),(7, .sl 1 3 0 x.2.length),(8, .p (i64 (l.map De.cells).length)),(17, .p (i64 x.1))],fun x=>⟨2,[(1,isO x.2),(0,dcO ⟨5,dn,dnm,dpl,drs,dcs⟩)]⟩,fun x=>x.1≤dcs.length∧x.2++casesI l ⟨5,dn,dnm,dpl,drs,dcs⟩ g (dcs.drop x.1)=cur++casesI l ⟨5,dn,dnm,dpl,drs,dcs⟩ g dcs,fun x=>dcs.length - x.1,?_,?_⟩
   ·exact⟨(0,cur),⟨Nat.zero_le _,rfl⟩,ent_of [] [] [] rfl (sk) (sk) rfl⟩
   rintro⟨j,cu⟩ ⟨j1,j2⟩
   simp only [] at j1 j2
   have htot:(cur++casesI l ⟨5,dn,dnm,dpl,drs,dcs⟩ g dcs).length≤1000:=by rw [List.length_append];omega
   (first | refine brLt (fun n1=>?_) (fun n1=>?_) | refine brLe (fun n1=>?_) (fun n1=>?_) | refine brEq (fun n1=>?_) (fun n1=>?_))
   rotate_left
   ·have n1:¬ (j:Int)<((dcs.map Cs.cells).length:Nat):=n1
    rw [List.length_map] at n1
    rw [List.drop_eq_nil_of_le (by omega),show casesI l ⟨5,dn,dnm,dpl,drs,dcs⟩ g []=[] from rfl,List.append_nil] at j2
    exact end1 (isl cu) rfl ⟨_,rfl,by show 0+cu.length≤(cu.map Iss.cells).length;simp,takeAll (by simp)⟩ (by rw [j2,k2,List.append_assoc])
   have n1:(j:Int)<((dcs.map Cs.cells).length:Nat):=n1
   rw [List.length_map] at n1
   have hj:j<dcs.length:=by omega
   have hcell:=scell hj
   have hx:=(hca _ (getD_memL cs0 hj)).ok
   rw [dropD cs0 hj,casesI_step,← List.append_assoc,← List.append_assoc] at j2
   rw [← j2,List.length_append,List.length_append] at htot
   generalize dcs.getD j cs0=x at hcell hx j2 htot
   obtain⟨⟨xo,xn,xr,xv,xf,xs,xa⟩,xw⟩:=x
   obtain⟨x1,x2,x3⟩:=hx
   simp only [] at x1 x2 x3 j2 htot
   have hr:=scrrow_c ⟨5,dn,dnm,dpl,drs,dcs⟩ xw g x2 x3
   refine vdraw_ot otO36 (by kernel_rfl) ?_
   refine⟨_,⟨by omega,(⟨.mk xo xn xr xv xf xs xa,xw⟩:Cs).cells,hcell,rfl⟩,?_⟩
   refine(rcond_h l ⟨5,dn,dnm,dpl,drs,dcs⟩ (by show drs.length≤100;omega) hl hok _ (.mk xo xn xr xv xf xs xa) cu (Nat.le_refl _) x1 (by omega)).holds.useT [] [(0,1)] rfl (sk) (sk) fun e0 H0 hq=>?_
   obtain⟨rfl,rfl⟩:=hq
   have hnl:(cu++condI l ⟨5,dn,dnm,dpl,drs,dcs⟩ (.mk xo xn xr xv xf xs xa)).length≤1000:=by omega
   generalize cu++condI l ⟨5,dn,dnm,dpl,drs,dcs⟩ (.mk xo xn xr xv xf xs xa)=nxt at j2 hnl ⊢
   refine⟨rfl,_,⟨3,(2,isO nxt)::[(0,dcO ⟨5,dn,dnm,dpl,drs,dcs⟩)]⟩,rfl,rfl,?_⟩
   refine vdraw_ot otO37 (by kernel_rfl) ?_
   refine⟨_,⟨by omega,(⟨.mk xo xn xr xv xf xs xa,xw⟩:Cs).cells,hcell,rfl⟩,?_⟩
   by_cases hrow:rowI ⟨5,dn,dnm,dpl,drs,dcs⟩ xw g=true
   ·rw [hrow] at hr j2
    rw [if_pos rfl,List.append_nil] at j2
    refine hr.eq rfl ?_
    refine⟨_,wrap_i64 (by omega) (by omega),?_⟩
    exact⟨(j+1,nxt),⟨by show j+1≤dcs.length;omega,j2⟩,ent_of [] [(1,2)] [] rfl (sk) (sk) rfl,by show dcs.length - (j+1)<dcs.length - j;omega⟩
   ·rw [Bool.not_eq_true] at hrow
    rw [hrow] at hr j2
    rw [if_neg (by decide),← hm] at j2
    refine hr.eq rfl ?_
    refine⟨by show 0+1≤1;omega,[Iss.cells (Iss.mk 9 ((l.map De.cells).length:Nat) [])],rfl,?_⟩
    refine⟨by show 0+(nxt.length)≤((nxt).map Iss.cells).length;simp,(nxt).map Iss.cells,takeAll (by simp),by show((nxt.length)+1) * 32≤140737488355328;omega,((nxt)++[Iss.mk 9 ((l.map De.cells).length:Nat) []]).map Iss.cells,by rw [List.map_append];rfl,?_⟩
    refine⟨_,wrap_i64 (by omega) (by omega),?_⟩
    exact⟨(j+1,nxt++[Iss.mk 9 ((l.map De.cells).length:Nat) []]),⟨by show j+1≤dcs.length;omega,j2⟩,ent_of [] [(1,4)] [] rfl ⟨rfl,rfl,⟨rfl,rfl⟩,congrArg (fun j:Nat=>AV.sl 4 3 0 j) (snoc_len _ _).symm,rfl,rfl,trivial⟩ (sk) rfl,by show dcs.length - (j+1)<dcs.length - j;omega⟩
  have m1:(k:Int)<((drs.map Rf.cells).length:Nat):=m1
  rw [List.length_map] at m1
  have hk:k<drs.length:=by omega
  have hcell:=rcell hk
  have hxn:=hrn _ (getD_memL rf0 hk)
  have hstep:refsI l ⟨5,dn,dnm,dpl,drs,dcs⟩ (drs.take k) (drs.drop k)=(if drs.getD k rf0∈drs.take k then [⟨2,((l.map De.cells).length:Nat),(drs.getD k rf0).name⟩] else [])++(noteI (refI l ⟨5,dn,dnm,dpl,drs,dcs⟩ (drs.getD k rf0)) ((l.map De.cells).length:Nat) (drs.getD k rf0).name++refsI l ⟨5,dn,dnm,dpl,drs,dcs⟩ (drs.take (k+1)) (drs.drop (k+1))):=by
   rw [dropD rf0 hk,refsI,hm,take_succ_getD rf0 hk]
  generalize drs.getD k rf0=x at hcell hxn hstep
  have hRf:=scref_c l ⟨5,dn,dnm,dpl,drs,dcs⟩ x hxn hl hok
  have hnn:=refI_nn l ⟨5,dn,dnm,dpl,drs,dcs⟩ x
  generalize refI l ⟨5,dn,dnm,dpl,drs,dcs⟩ x=kk at hRf hnn hstep
  refine⟨Nat × Bool,fun y=>[(0, .p (des l)),(2, .p (i64 g)),(4, .ptr 0 0 0),(7, .sl 1 3 0 cur.length),(8, .p (i64 (l.map De.cells).length)),(13, .p (i64 k)),(14, .p (.bool y.2)),(15, .p (i64 y.1))],fun _=>⟨2,[(1,isO cur),(0,dcO ⟨5,dn,dnm,dpl,drs,dcs⟩)]⟩,fun y=>y.1≤k∧y.2=decide (x∈drs.take y.1),fun y=>k - y.1,?_,?_⟩
  ·exact⟨(0,false),⟨Nat.zero_le _,by simp⟩,ent_of [] [] [] rfl (sk) (sk) rfl⟩
  rintro⟨j,b⟩ ⟨j1,j2⟩
  simp only [] at j1 j2
  cases b
  ·(first | refine brLt (fun n1=>?_) (fun n1=>?_) | refine brLe (fun n1=>?_) (fun n1=>?_) | refine brEq (fun n1=>?_) (fun n1=>?_))
   ·have n1:(j:Int)<(k:Nat):=n1
    have hj:j<drs.length:=by omega
    have hcj:=rcell hj
    have hnx:(x∈drs.take (j+1)) ↔ (x∈drs.take j∨x=drs.getD j rf0):=by rw [take_succ_getD rf0 hj,List.mem_append,List.mem_singleton]
    generalize drs.getD j rf0=y at hcj hnx
    refine vdraw_ot otO27 (by kernel_rfl) ?_
    refine⟨_,⟨by omega,y.cells,hcj,rfl⟩,?_⟩
    refine⟨_,⟨by omega,x.cells,hcell,rfl⟩,?_⟩
    refine⟨⟨by kernel_rfl,by kernel_rfl⟩,fun e1=>?_,fun e1=>?_⟩
    ·have e1:y=x:=rf_ext (by first | exact e1 | (injection e1))
     refine⟨_,wrap_i64 (by omega) (by omega),?_⟩
     exact⟨(j+1,true),⟨by show j+1≤k;omega,(decide_eq_true (hnx.2 (.inr e1.symm))).symm⟩,ent_of [] [] [] rfl (sk) (sk) rfl,by show k - (j+1)<k - j;omega⟩
    ·have e1:¬ y=x:=fun e=>e1 (by rw [e])
     have hno:¬ x∈drs.take j:=of_decide_eq_false j2.symm
     refine⟨_,wrap_i64 (by omega) (by omega),?_⟩
     exact⟨(j+1,false),⟨by show j+1≤k;omega,(decide_eq_false (fun h=>(hnx.1 h).elim hno fun e=>e1 e.symm)).symm⟩,ent_of [] [] [] rfl (sk) (sk) rfl,by show k - (j+1)<k - j;omega⟩
   ·have n1:¬ (j:Int)<(k:Nat):=n1
    have hjk:j=k:=by omega
    have hno:¬ x∈drs.take k:=by rw [hjk] at j2;exact of_decide_eq_false j2.symm
    rw [if_neg hno] at hstep
    clear hjk n1 j1 j2
    refine vdraw_ot otO30 (by kernel_rfl) ?_
    refine⟨_,⟨by omega,x.cells,hcell,rfl⟩,?_⟩
    refine hRf.eq rfl ?_
    refine brLt (fun z=>?_) (fun z=>?_)
    ·have z:0<kk:=z
     rw [noteI,if_neg (show ¬ kk=0 by omega)] at hstep
     refine⟨_,⟨by omega,x.cells,hcell,rfl⟩,?_⟩
     refine⟨by show 0+1≤1;omega,[Iss.cells (Iss.mk kk ((l.map De.cells).length:Nat) x.name)],rfl,?_⟩
     refine⟨by show 0+(cur.length)≤((cur).map Iss.cells).length;simp,(cur).map Iss.cells,takeAll (by simp),by show((cur.length)+1) * 32≤140737488355328;omega,((cur)++[Iss.mk kk ((l.map De.cells).length:Nat) x.name]).map Iss.cells,by rw [List.map_append];rfl,?_⟩
     refine⟨_,wrap_i64 (by omega) (by omega),?_⟩
     exact⟨(k+1,(cur)++[Iss.mk kk ((l.map De.cells).length:Nat) x.name]),⟨by show k+1≤drs.length;omega,by rw [← k2];rw [hstep,List.append_assoc] <;> rfl⟩,ent_of [] [(1,3)] [] rfl ⟨rfl,rfl,⟨rfl,rfl⟩,congrArg (fun j:Nat=>AV.sl 3 3 0 j) (snoc_len cur _).symm,rfl,rfl,trivial⟩ (sk) rfl,by show drs.length - (k+1)<drs.length - k;omega⟩
    ·have z:¬ 0<kk:=z
     rw [noteI,if_pos (show kk=0 by omega)] at hstep
     refine⟨_,wrap_i64 (by omega) (by omega),?_⟩
     exact⟨(k+1,cur),⟨by show k+1≤drs.length;omega,by rw [← k2];rw [hstep] <;> rfl⟩,ent_of [] [(1,1)] [] rfl ⟨rfl,rfl,⟨rfl,rfl⟩,rfl,rfl,rfl,trivial⟩ (sk) rfl,by show drs.length - (k+1)<drs.length - k;omega⟩
  ·(first | refine brLt (fun n1=>?_) (fun n1=>?_) | refine brLe (fun n1=>?_) (fun n1=>?_) | refine brEq (fun n1=>?_) (fun n1=>?_))
   ·have n1:(j:Int)<(k:Nat):=n1
    have hj:j<drs.length:=by omega
    have hnx:(x∈drs.take (j+1)) ↔ (x∈drs.take j∨x=drs.getD j rf0):=by rw [take_succ_getD rf0 hj,List.mem_append,List.mem_singleton]
    have hyes:x∈drs.take j:=of_decide_eq_true j2.symm
    refine vdraw_ot otO27 (by kernel_rfl) ?_
    refine⟨_,wrap_i64 (by omega) (by omega),?_⟩
    exact⟨(j+1,true),⟨by show j+1≤k;omega,(decide_eq_true (hnx.2 (.inl hyes))).symm⟩,ent_of [] [] [] rfl (sk) (sk) rfl,by show k - (j+1)<k - j;omega⟩
   ·have n1:¬ (j:Int)<(k:Nat):=n1
    have hjk:j=k:=by omega
    have hyes:x∈drs.take k:=by rw [hjk] at j2;exact of_decide_eq_true j2.symm
    rw [if_pos hyes] at hstep
    clear hjk n1 j1 j2
    refine⟨_,⟨by omega,x.cells,hcell,rfl⟩,?_⟩
    refine⟨by show 0+1≤1;omega,[Iss.cells (Iss.mk 2 ((l.map De.cells).length:Nat) x.name)],rfl,?_⟩
    refine⟨by show 0+(cur.length)≤((cur).map Iss.cells).length;simp,(cur).map Iss.cells,takeAll (by simp),by show((cur.length)+1) * 32≤140737488355328;omega,((cur)++[Iss.mk 2 ((l.map De.cells).length:Nat) x.name]).map Iss.cells,by rw [List.map_append];rfl,?_⟩
    refine vdraw_ot otO30 (by kernel_rfl) ?_
    refine⟨_,⟨by omega,x.cells,hcell,rfl⟩,?_⟩
    refine hRf.eq rfl ?_
    refine brLt (fun z=>?_) (fun z=>?_)
    ·have z:0<kk:=z
     rw [noteI,if_neg (show ¬ kk=0 by omega)] at hstep
     refine⟨_,⟨by omega,x.cells,hcell,rfl⟩,?_⟩
     refine⟨by show 0+1≤1;omega,[Iss.cells (Iss.mk kk ((l.map De.cells).length:Nat) x.name)],rfl,?_⟩
     refine⟨by show 0+(cur.length+1)≤((cur++[Iss.mk 2 ((l.map De.cells).length:Nat) x.name]).map Iss.cells).length;simp,(cur++[Iss.mk 2 ((l.map De.cells).length:Nat) x.name]).map Iss.cells,takeAll (by simp),by show((cur.length+1)+1) * 32≤140737488355328;omega,((cur++[Iss.mk 2 ((l.map De.cells).length:Nat) x.name])++[Iss.mk kk ((l.map De.cells).length:Nat) x.name]).map Iss.cells,by rw [List.map_append];rfl,?_⟩
     refine⟨_,wrap_i64 (by omega) (by omega),?_⟩
     exact⟨(k+1,(cur++[Iss.mk 2 ((l.map De.cells).length:Nat) x.name])++[Iss.mk kk ((l.map De.cells).length:Nat) x.name]),⟨by show k+1≤drs.length;omega,by rw [← k2];rw [hstep,List.append_assoc,List.append_assoc] <;> rfl⟩,ent_of [] [(1,5)] [] rfl ⟨rfl,rfl,⟨rfl,rfl⟩,congrArg (fun j:Nat=>AV.sl 5 3 0 j) ((snoc_len _ _).trans (congrArg (fun z:Nat=>z+1) (snoc_len cur _))).symm,rfl,rfl,trivial⟩ (sk) rfl,by show drs.length - (k+1)<drs.length - k;omega⟩
    ·have z:¬ 0<kk:=z
     rw [noteI,if_pos (show kk=0 by omega)] at hstep
     refine⟨_,wrap_i64 (by omega) (by omega),?_⟩
     exact⟨(k+1,cur++[Iss.mk 2 ((l.map De.cells).length:Nat) x.name]),⟨by show k+1≤drs.length;omega,by rw [← k2];rw [hstep,List.append_assoc] <;> rfl⟩,ent_of [] [(1,3)] [] rfl ⟨rfl,rfl,⟨rfl,rfl⟩,congrArg (fun j:Nat=>AV.sl 3 3 0 j) (snoc_len cur _).symm,rfl,rfl,trivial⟩ (sk) rfl,by show drs.length - (k+1)<drs.length - k;omega⟩
theorem rone_4 (l:List De) (dn:Int) (dnm dpl:List UInt8) (drs:List Rf) (dcs:List Cs) (g:Int) (hd:DcV ⟨4,dn,dnm,dpl,drs,dcs⟩) (hl:l.length≤1000) (hok:∀ d∈l,OkD d):Pure cx 56 [des l,(De.mk 4 dn dnm dpl drs dcs).pv,i64 g] (·=.ret [isl (preI l ⟨4,dn,dnm,dpl,drs,dcs⟩++(refsI l ⟨4,dn,dnm,dpl,drs,dcs⟩ [] drs++casesI l ⟨4,dn,dnm,dpl,drs,dcs⟩ g dcs))]):=by
 have hm:(l.map De.cells).length=l.length:=List.length_map ..
 have hdr:drs.length≤8:=hd.refs
 have hcs:dcs.length≤12:=hd.few
 have hca:∀ c∈dcs,CaV c:=hd.cases
 have hrn:∀ r∈drs,r.name ≠ []:=hd.ok.ok.refs
 have hbare:(4:Int)=1∨(4:Int)=5→dnm=[]:=hd.ok.ok.bare
 have hname:(4:Int)=2∨(4:Int)=3∨(4:Int)=4→dnm ≠ []:=hd.ok.ok.name
 have hplate:¬ (4:Int)=3→dpl=[]:=hd.ok.ok.plate
 have t1:=preI_len l ⟨4,dn,dnm,dpl,drs,dcs⟩
 have t2:=refsI_len l ⟨4,dn,dnm,dpl,drs,dcs⟩ drs []
 have t3:=casesI_len l ⟨4,dn,dnm,dpl,drs,dcs⟩ g dcs hca
 have hnm:=hname (.inr (.inr rfl))
 have hpl:=hplate (by decide)
 have hpre:preI l ⟨4,dn,dnm,dpl,drs,dcs⟩=twiceI l ⟨4,dn,dnm,dpl,drs,dcs⟩++cardI l ⟨4,dn,dnm,dpl,drs,dcs⟩:=rfl
 have hT:=twice_cases l (d:=⟨4,dn,dnm,dpl,drs,dcs⟩) hnm hl hok
 refine pure_of_vc Tryz.func56 rfl rfl rfl ?_
 apply cut
 case h=>
  intro key
  refine And.intro (fun h=>absurd (show(4:Int)=1 from h) (by decide)) (fun _=>?_)
  refine Or.elim hT (fun hT=>?_) (fun hT=>?_)
  ·obtain⟨hT1,hT2⟩:=hT
   refine hT2.eq rfl ?_
   refine And.intro (fun h=>absurd (show(4:Int)=2 from h) (by decide)) (fun _=>?_)
   refine And.intro (fun _=>?_) (fun h=>absurd hpl h)
   refine And.intro (fun h=>absurd (show(4:Int)=3 from h) (by decide)) (fun _=>?_)
   refine And.intro (fun _=>?_) (fun h=>absurd rfl h)
   refine brLt (fun c1=>?_) (fun c1=>?_)
   ·have c1:dn<2:=c1
    have hc:cardI l ⟨4,dn,dnm,dpl,drs,dcs⟩=[Iss.mk 6 ((l.map De.cells).length:Nat) dnm]:=by rw [cardI,if_pos (.inl c1),hm]
    refine⟨by show 0+1≤1;omega,[Iss.cells (Iss.mk 6 ((l.map De.cells).length:Nat) dnm)],rfl,?_⟩
    refine⟨by show 1 * 32≤140737488355328;decide,?_⟩
    exact⟨Nat × List Iss,(fun x=>[(0, .p (des l)),(2, .p (i64 g)),(4, .ptr 0 0 0),(7, .sl 1 3 0 x.2.length),(8, .p (i64 (l.map De.cells).length)),(13, .p (i64 x.1))]),(fun x=>⟨2,[(1,isO x.2),(0,dcO ⟨4,dn,dnm,dpl,drs,dcs⟩)]⟩),(fun x=>x.1≤drs.length∧x.2++refsI l ⟨4,dn,dnm,dpl,drs,dcs⟩ (drs.take x.1) (drs.drop x.1)=preI l ⟨4,dn,dnm,dpl,drs,dcs⟩++refsI l ⟨4,dn,dnm,dpl,drs,dcs⟩ [] drs),(fun x=>drs.length - x.1),⟨(0,[Iss.mk 6 ((l.map De.cells).length:Nat) dnm]),⟨Nat.zero_le _,by show [Iss.mk 6 ((l.map De.cells).length:Nat) dnm]++_=_;rw [hpre,hT1,hc];rfl⟩,ent_of [] [(1,3)] [] rfl (sk) (sk) rfl⟩,key.get⟩
   have c1:¬ dn<2:=c1
   refine brLt (fun c2=>?_) (fun c2=>?_)
   ·have c2:4<dn:=c2
    have hc:cardI l ⟨4,dn,dnm,dpl,drs,dcs⟩=[Iss.mk 6 ((l.map De.cells).length:Nat) dnm]:=by rw [cardI,if_pos (.inr c2),hm]
    refine⟨by show 0+1≤1;omega,[Iss.cells (Iss.mk 6 ((l.map De.cells).length:Nat) dnm)],rfl,?_⟩
    refine⟨by show 1 * 32≤140737488355328;decide,?_⟩
    exact⟨Nat × List Iss,(fun x=>[(0, .p (des l)),(2, .p (i64 g)),(4, .ptr 0 0 0),(7, .sl 1 3 0 x.2.length),(8, .p (i64 (l.map De.cells).length)),(13, .p (i64 x.1))]),(fun x=>⟨2,[(1,isO x.2),(0,dcO ⟨4,dn,dnm,dpl,drs,dcs⟩)]⟩),(fun x=>x.1≤drs.length∧x.2++refsI l ⟨4,dn,dnm,dpl,drs,dcs⟩ (drs.take x.1) (drs.drop x.1)=preI l ⟨4,dn,dnm,dpl,drs,dcs⟩++refsI l ⟨4,dn,dnm,dpl,drs,dcs⟩ [] drs),(fun x=>drs.length - x.1),⟨(0,[Iss.mk 6 ((l.map De.cells).length:Nat) dnm]),⟨Nat.zero_le _,by show [Iss.mk 6 ((l.map De.cells).length:Nat) dnm]++_=_;rw [hpre,hT1,hc];rfl⟩,ent_of [] [(1,3)] [] rfl (sk) (sk) rfl⟩,key.get⟩
   ·have c2:¬ 4<dn:=c2
    have hc:cardI l ⟨4,dn,dnm,dpl,drs,dcs⟩=[]:=by rw [cardI,if_neg (show ¬ (dn<2∨4<dn) by omega)]
    exact⟨Nat × List Iss,(fun x=>[(0, .p (des l)),(2, .p (i64 g)),(4, .ptr 0 0 0),(7, .sl 1 3 0 x.2.length),(8, .p (i64 (l.map De.cells).length)),(13, .p (i64 x.1))]),(fun x=>⟨2,[(1,isO x.2),(0,dcO ⟨4,dn,dnm,dpl,drs,dcs⟩)]⟩),(fun x=>x.1≤drs.length∧x.2++refsI l ⟨4,dn,dnm,dpl,drs,dcs⟩ (drs.take x.1) (drs.drop x.1)=preI l ⟨4,dn,dnm,dpl,drs,dcs⟩++refsI l ⟨4,dn,dnm,dpl,drs,dcs⟩ [] drs),(fun x=>drs.length - x.1),⟨(0,[]),⟨Nat.zero_le _,by show []++_=_;rw [hpre,hT1,hc];rfl⟩,ent_of [] [] [(1,3)] rfl (sk) (sk) rfl⟩,key.get⟩
  ·obtain⟨z1,z2,z3,z4,z5,hT1,hT2⟩:=hT
   refine hT2.eq rfl ?_
   refine And.intro (fun h=>absurd h hnm) (fun _=>?_)
   refine⟨by show 0+1≤1;omega,[Iss.cells (Iss.mk 2 ((l.map De.cells).length:Nat) dnm)],rfl,?_⟩
   refine⟨by show 1 * 32≤140737488355328;decide,?_⟩
   refine And.intro (fun h=>absurd (show(4:Int)=2 from h) (by decide)) (fun _=>?_)
   refine And.intro (fun _=>?_) (fun h=>absurd hpl h)
   refine And.intro (fun h=>absurd (show(4:Int)=3 from h) (by decide)) (fun _=>?_)
   refine And.intro (fun _=>?_) (fun h=>absurd rfl h)
   refine brLt (fun c1=>?_) (fun c1=>?_)
   ·have c1:dn<2:=c1
    have hc:cardI l ⟨4,dn,dnm,dpl,drs,dcs⟩=[Iss.mk 6 ((l.map De.cells).length:Nat) dnm]:=by rw [cardI,if_pos (.inl c1),hm]
    refine⟨by show 0+1≤1;omega,[Iss.cells (Iss.mk 6 ((l.map De.cells).length:Nat) dnm)],rfl,?_⟩
    refine⟨by show 0+1≤1;decide,[Iss.cells (Iss.mk 2 ((l.map De.cells).length:Nat) dnm)],rfl,by show(1+1) * 32≤140737488355328;decide,[Iss.cells (Iss.mk 2 ((l.map De.cells).length:Nat) dnm),Iss.cells (Iss.mk 6 ((l.map De.cells).length:Nat) dnm)],rfl,?_⟩
    exact⟨Nat × List Iss,(fun x=>[(0, .p (des l)),(2, .p (i64 g)),(4, .ptr 0 0 0),(7, .sl 1 3 0 x.2.length),(8, .p (i64 (l.map De.cells).length)),(13, .p (i64 x.1))]),(fun x=>⟨2,[(1,isO x.2),(0,dcO ⟨4,dn,dnm,dpl,drs,dcs⟩)]⟩),(fun x=>x.1≤drs.length∧x.2++refsI l ⟨4,dn,dnm,dpl,drs,dcs⟩ (drs.take x.1) (drs.drop x.1)=preI l ⟨4,dn,dnm,dpl,drs,dcs⟩++refsI l ⟨4,dn,dnm,dpl,drs,dcs⟩ [] drs),(fun x=>drs.length - x.1),⟨(0,[Iss.mk 2 ((l.map De.cells).length:Nat) dnm,Iss.mk 6 ((l.map De.cells).length:Nat) dnm]),⟨Nat.zero_le _,by show [Iss.mk 2 ((l.map De.cells).length:Nat) dnm,Iss.mk 6 ((l.map De.cells).length:Nat) dnm]++_=_;rw [hpre,hT1,hc];rfl⟩,ent_of [] [(1,5)] [] rfl (sk) (sk) rfl⟩,key.get⟩
   have c1:¬ dn<2:=c1
   refine brLt (fun c2=>?_) (fun c2=>?_)
   ·have c2:4<dn:=c2
    have hc:cardI l ⟨4,dn,dnm,dpl,drs,dcs⟩=[Iss.mk 6 ((l.map De.cells).length:Nat) dnm]:=by rw [cardI,if_pos (.inr c2),hm]
    refine⟨by show 0+1≤1;omega,[Iss.cells (Iss.mk 6 ((l.map De.cells).length:Nat) dnm)],rfl,?_⟩
    refine⟨by show 0+1≤1;decide,[Iss.cells (Iss.mk 2 ((l.map De.cells).length:Nat) dnm)],rfl,by show(1+1) * 32≤140737488355328;decide,[Iss.cells (Iss.mk 2 ((l.map De.cells).length:Nat) dnm),Iss.cells (Iss.mk 6 ((l.map De.cells).length:Nat) dnm)],rfl,?_⟩
    exact⟨Nat × List Iss,(fun x=>[(0, .p (des l)),(2, .p (i64 g)),(4, .ptr 0 0 0),(7, .sl 1 3 0 x.2.length),(8, .p (i64 (l.map De.cells).length)),(13, .p (i64 x.1))]),(fun x=>⟨2,[(1,isO x.2),(0,dcO ⟨4,dn,dnm,dpl,drs,dcs⟩)]⟩),(fun x=>x.1≤drs.length∧x.2++refsI l ⟨4,dn,dnm,dpl,drs,dcs⟩ (drs.take x.1) (drs.drop x.1)=preI l ⟨4,dn,dnm,dpl,drs,dcs⟩++refsI l ⟨4,dn,dnm,dpl,drs,dcs⟩ [] drs),(fun x=>drs.length - x.1),⟨(0,[Iss.mk 2 ((l.map De.cells).length:Nat) dnm,Iss.mk 6 ((l.map De.cells).length:Nat) dnm]),⟨Nat.zero_le _,by show [Iss.mk 2 ((l.map De.cells).length:Nat) dnm,Iss.mk 6 ((l.map De.cells).length:Nat) dnm]++_=_;rw [hpre,hT1,hc];rfl⟩,ent_of [] [(1,5)] [] rfl (sk) (sk) rfl⟩,key.get⟩
   ·have c2:¬ 4<dn:=c2
    have hc:cardI l ⟨4,dn,dnm,dpl,drs,dcs⟩=[]:=by rw [cardI,if_neg (show ¬ (dn<2∨4<dn) by omega)]
    exact⟨Nat × List Iss,(fun x=>[(0, .p (des l)),(2, .p (i64 g)),(4, .ptr 0 0 0),(7, .sl 1 3 0 x.2.length),(8, .p (i64 (l.map De.cells).length)),(13, .p (i64 x.1))]),(fun x=>⟨2,[(1,isO x.2),(0,dcO ⟨4,dn,dnm,dpl,drs,dcs⟩)]⟩),(fun x=>x.1≤drs.length∧x.2++refsI l ⟨4,dn,dnm,dpl,drs,dcs⟩ (drs.take x.1) (drs.drop x.1)=preI l ⟨4,dn,dnm,dpl,drs,dcs⟩++refsI l ⟨4,dn,dnm,dpl,drs,dcs⟩ [] drs),(fun x=>drs.length - x.1),⟨(0,[Iss.mk 2 ((l.map De.cells).length:Nat) dnm]),⟨Nat.zero_le _,by show [Iss.mk 2 ((l.map De.cells).length:Nat) dnm]++_=_;rw [hpre,hT1,hc];rfl⟩,ent_of [] [(1,3)] [] rfl (sk) (sk) rfl⟩,key.get⟩
 case k=>
  rintro⟨k,cur⟩ ⟨k1,k2⟩
  simp only [] at k1 k2
  have hcl:cur.length≤400:=by
   have e:=congrArg List.length k2
   rw [List.length_append,List.length_append] at e
   omega
  (first | refine brLt (fun m1=>?_) (fun m1=>?_) | refine brLe (fun m1=>?_) (fun m1=>?_) | refine brEq (fun m1=>?_) (fun m1=>?_))
  rotate_left
  ·have m1:¬ (k:Int)<((drs.map Rf.cells).length:Nat):=m1
   rw [List.length_map] at m1
   rw [List.drop_eq_nil_of_le (by omega),refsI,List.append_nil] at k2
   refine⟨Nat × List Iss,fun x=>[(0, .p (des l)),(2, .p (i64 g)),(4, .ptr 0 0 0),(7, .sl 1 3 0 x.2.length),(8, .p (i64 (l.map De.cells).length)),(17, .p (i64 x.1))],fun x=>⟨2,[(1,isO x.2),(0,dcO ⟨4,dn,dnm,dpl,drs,dcs⟩)]⟩,fun x=>x.1≤dcs.length∧x.2++casesI l ⟨4,dn,dnm,dpl,drs,dcs⟩ g (dcs.drop x.1)=cur++casesI l ⟨4,dn,dnm,dpl,drs,dcs⟩ g dcs,fun x=>dcs.length - x.1,?_,?_⟩
   ·exact⟨(0,cur),⟨Nat.zero_le _,rfl⟩,ent_of [] [] [] rfl (sk) (sk) rfl⟩
   rintro⟨j,cu⟩ ⟨j1,j2⟩
   simp only [] at j1 j2
   have htot:(cur++casesI l ⟨4,dn,dnm,dpl,drs,dcs⟩ g dcs).length≤1000:=by rw [List.length_append];omega
   (first | refine brLt (fun n1=>?_) (fun n1=>?_) | refine brLe (fun n1=>?_) (fun n1=>?_) | refine brEq (fun n1=>?_) (fun n1=>?_))
   rotate_left
   ·have n1:¬ (j:Int)<((dcs.map Cs.cells).length:Nat):=n1
    rw [List.length_map] at n1
    rw [List.drop_eq_nil_of_le (by omega),show casesI l ⟨4,dn,dnm,dpl,drs,dcs⟩ g []=[] from rfl,List.append_nil] at j2
    exact end1 (isl cu) rfl ⟨_,rfl,by show 0+cu.length≤(cu.map Iss.cells).length;simp,takeAll (by simp)⟩ (by rw [j2,k2,List.append_assoc])
   have n1:(j:Int)<((dcs.map Cs.cells).length:Nat):=n1
   rw [List.length_map] at n1
   have hj:j<dcs.length:=by omega
   have hcell:=scell hj
   have hx:=(hca _ (getD_memL cs0 hj)).ok
   rw [dropD cs0 hj,casesI_step,← List.append_assoc,← List.append_assoc] at j2
   rw [← j2,List.length_append,List.length_append] at htot
   generalize dcs.getD j cs0=x at hcell hx j2 htot
   obtain⟨⟨xo,xn,xr,xv,xf,xs,xa⟩,xw⟩:=x
   obtain⟨x1,x2,x3⟩:=hx
   simp only [] at x1 x2 x3 j2 htot
   have hr:=scrrow_c ⟨4,dn,dnm,dpl,drs,dcs⟩ xw g x2 x3
   refine vdraw_ot otO36 (by kernel_rfl) ?_
   refine⟨_,⟨by omega,(⟨.mk xo xn xr xv xf xs xa,xw⟩:Cs).cells,hcell,rfl⟩,?_⟩
   refine(rcond_h l ⟨4,dn,dnm,dpl,drs,dcs⟩ (by show drs.length≤100;omega) hl hok _ (.mk xo xn xr xv xf xs xa) cu (Nat.le_refl _) x1 (by omega)).holds.useT [] [(0,1)] rfl (sk) (sk) fun e0 H0 hq=>?_
   obtain⟨rfl,rfl⟩:=hq
   have hnl:(cu++condI l ⟨4,dn,dnm,dpl,drs,dcs⟩ (.mk xo xn xr xv xf xs xa)).length≤1000:=by omega
   generalize cu++condI l ⟨4,dn,dnm,dpl,drs,dcs⟩ (.mk xo xn xr xv xf xs xa)=nxt at j2 hnl ⊢
   refine⟨rfl,_,⟨3,(2,isO nxt)::[(0,dcO ⟨4,dn,dnm,dpl,drs,dcs⟩)]⟩,rfl,rfl,?_⟩
   refine vdraw_ot otO37 (by kernel_rfl) ?_
   refine⟨_,⟨by omega,(⟨.mk xo xn xr xv xf xs xa,xw⟩:Cs).cells,hcell,rfl⟩,?_⟩
   by_cases hrow:rowI ⟨4,dn,dnm,dpl,drs,dcs⟩ xw g=true
   ·rw [hrow] at hr j2
    rw [if_pos rfl,List.append_nil] at j2
    refine hr.eq rfl ?_
    refine⟨_,wrap_i64 (by omega) (by omega),?_⟩
    exact⟨(j+1,nxt),⟨by show j+1≤dcs.length;omega,j2⟩,ent_of [] [(1,2)] [] rfl (sk) (sk) rfl,by show dcs.length - (j+1)<dcs.length - j;omega⟩
   ·rw [Bool.not_eq_true] at hrow
    rw [hrow] at hr j2
    rw [if_neg (by decide),← hm] at j2
    refine hr.eq rfl ?_
    refine⟨by show 0+1≤1;omega,[Iss.cells (Iss.mk 9 ((l.map De.cells).length:Nat) [])],rfl,?_⟩
    refine⟨by show 0+(nxt.length)≤((nxt).map Iss.cells).length;simp,(nxt).map Iss.cells,takeAll (by simp),by show((nxt.length)+1) * 32≤140737488355328;omega,((nxt)++[Iss.mk 9 ((l.map De.cells).length:Nat) []]).map Iss.cells,by rw [List.map_append];rfl,?_⟩
    refine⟨_,wrap_i64 (by omega) (by omega),?_⟩
    exact⟨(j+1,nxt++[Iss.mk 9 ((l.map De.cells).length:Nat) []]),⟨by show j+1≤dcs.length;omega,j2⟩,ent_of [] [(1,4)] [] rfl ⟨rfl,rfl,⟨rfl,rfl⟩,congrArg (fun j:Nat=>AV.sl 4 3 0 j) (snoc_len _ _).symm,rfl,rfl,trivial⟩ (sk) rfl,by show dcs.length - (j+1)<dcs.length - j;omega⟩
  have m1:(k:Int)<((drs.map Rf.cells).length:Nat):=m1
  rw [List.length_map] at m1
  have hk:k<drs.length:=by omega
  have hcell:=rcell hk
  have hxn:=hrn _ (getD_memL rf0 hk)
  have hstep:refsI l ⟨4,dn,dnm,dpl,drs,dcs⟩ (drs.take k) (drs.drop k)=(if drs.getD k rf0∈drs.take k then [⟨2,((l.map De.cells).length:Nat),(drs.getD k rf0).name⟩] else [])++(noteI (refI l ⟨4,dn,dnm,dpl,drs,dcs⟩ (drs.getD k rf0)) ((l.map De.cells).length:Nat) (drs.getD k rf0).name++refsI l ⟨4,dn,dnm,dpl,drs,dcs⟩ (drs.take (k+1)) (drs.drop (k+1))):=by
   rw [dropD rf0 hk,refsI,hm,take_succ_getD rf0 hk]
  generalize drs.getD k rf0=x at hcell hxn hstep
  have hRf:=scref_c l ⟨4,dn,dnm,dpl,drs,dcs⟩ x hxn hl hok
  have hnn:=refI_nn l ⟨4,dn,dnm,dpl,drs,dcs⟩ x
  generalize refI l ⟨4,dn,dnm,dpl,drs,dcs⟩ x=kk at hRf hnn hstep
  refine⟨Nat × Bool,fun y=>[(0, .p (des l)),(2, .p (i64 g)),(4, .ptr 0 0 0),(7, .sl 1 3 0 cur.length),(8, .p (i64 (l.map De.cells).length)),(13, .p (i64 k)),(14, .p (.bool y.2)),(15, .p (i64 y.1))],fun _=>⟨2,[(1,isO cur),(0,dcO ⟨4,dn,dnm,dpl,drs,dcs⟩)]⟩,fun y=>y.1≤k∧y.2=decide (x∈drs.take y.1),fun y=>k - y.1,?_,?_⟩
  ·exact⟨(0,false),⟨Nat.zero_le _,by simp⟩,ent_of [] [] [] rfl (sk) (sk) rfl⟩
  rintro⟨j,b⟩ ⟨j1,j2⟩
  simp only [] at j1 j2
  cases b
  ·(first | refine brLt (fun n1=>?_) (fun n1=>?_) | refine brLe (fun n1=>?_) (fun n1=>?_) | refine brEq (fun n1=>?_) (fun n1=>?_))
   ·have n1:(j:Int)<(k:Nat):=n1
    have hj:j<drs.length:=by omega
    have hcj:=rcell hj
    have hnx:(x∈drs.take (j+1)) ↔ (x∈drs.take j∨x=drs.getD j rf0):=by rw [take_succ_getD rf0 hj,List.mem_append,List.mem_singleton]
    generalize drs.getD j rf0=y at hcj hnx
    refine vdraw_ot otO27 (by kernel_rfl) ?_
    refine⟨_,⟨by omega,y.cells,hcj,rfl⟩,?_⟩
    refine⟨_,⟨by omega,x.cells,hcell,rfl⟩,?_⟩
    refine⟨⟨by kernel_rfl,by kernel_rfl⟩,fun e1=>?_,fun e1=>?_⟩
    ·have e1:y=x:=rf_ext (by first | exact e1 | (injection e1))
     refine⟨_,wrap_i64 (by omega) (by omega),?_⟩
     exact⟨(j+1,true),⟨by show j+1≤k;omega,(decide_eq_true (hnx.2 (.inr e1.symm))).symm⟩,ent_of [] [] [] rfl (sk) (sk) rfl,by show k - (j+1)<k - j;omega⟩
    ·have e1:¬ y=x:=fun e=>e1 (by rw [e])
     have hno:¬ x∈drs.take j:=of_decide_eq_false j2.symm
     refine⟨_,wrap_i64 (by omega) (by omega),?_⟩
     exact⟨(j+1,false),⟨by show j+1≤k;omega,(decide_eq_false (fun h=>(hnx.1 h).elim hno fun e=>e1 e.symm)).symm⟩,ent_of [] [] [] rfl (sk) (sk) rfl,by show k - (j+1)<k - j;omega⟩
   ·have n1:¬ (j:Int)<(k:Nat):=n1
    have hjk:j=k:=by omega
    have hno:¬ x∈drs.take k:=by rw [hjk] at j2;exact of_decide_eq_false j2.symm
    rw [if_neg hno] at hstep
    clear hjk n1 j1 j2
    refine vdraw_ot otO30 (by kernel_rfl) ?_
    refine⟨_,⟨by omega,x.cells,hcell,rfl⟩,?_⟩
    refine hRf.eq rfl ?_
    refine brLt (fun z=>?_) (fun z=>?_)
    ·have z:0<kk:=z
     rw [noteI,if_neg (show ¬ kk=0 by omega)] at hstep
     refine⟨_,⟨by omega,x.cells,hcell,rfl⟩,?_⟩
     refine⟨by show 0+1≤1;omega,[Iss.cells (Iss.mk kk ((l.map De.cells).length:Nat) x.name)],rfl,?_⟩
     refine⟨by show 0+(cur.length)≤((cur).map Iss.cells).length;simp,(cur).map Iss.cells,takeAll (by simp),by show((cur.length)+1) * 32≤140737488355328;omega,((cur)++[Iss.mk kk ((l.map De.cells).length:Nat) x.name]).map Iss.cells,by rw [List.map_append];rfl,?_⟩
     refine⟨_,wrap_i64 (by omega) (by omega),?_⟩
     exact⟨(k+1,(cur)++[Iss.mk kk ((l.map De.cells).length:Nat) x.name]),⟨by show k+1≤drs.length;omega,by rw [← k2];rw [hstep,List.append_assoc] <;> rfl⟩,ent_of [] [(1,3)] [] rfl ⟨rfl,rfl,⟨rfl,rfl⟩,congrArg (fun j:Nat=>AV.sl 3 3 0 j) (snoc_len cur _).symm,rfl,rfl,trivial⟩ (sk) rfl,by show drs.length - (k+1)<drs.length - k;omega⟩
    ·have z:¬ 0<kk:=z
     rw [noteI,if_pos (show kk=0 by omega)] at hstep
     refine⟨_,wrap_i64 (by omega) (by omega),?_⟩
     exact⟨(k+1,cur),⟨by show k+1≤drs.length;omega,by rw [← k2];rw [hstep] <;> rfl⟩,ent_of [] [(1,1)] [] rfl ⟨rfl,rfl,⟨rfl,rfl⟩,rfl,rfl,rfl,trivial⟩ (sk) rfl,by show drs.length - (k+1)<drs.length - k;omega⟩
  ·(first | refine brLt (fun n1=>?_) (fun n1=>?_) | refine brLe (fun n1=>?_) (fun n1=>?_) | refine brEq (fun n1=>?_) (fun n1=>?_))
   ·have n1:(j:Int)<(k:Nat):=n1
    have hj:j<drs.length:=by omega
    have hnx:(x∈drs.take (j+1)) ↔ (x∈drs.take j∨x=drs.getD j rf0):=by rw [take_succ_getD rf0 hj,List.mem_append,List.mem_singleton]
    have hyes:x∈drs.take j:=of_decide_eq_true j2.symm
    refine vdraw_ot otO27 (by kernel_rfl) ?_
    refine⟨_,wrap_i64 (by omega) (by omega),?_⟩
    exact⟨(j+1,true),⟨by show j+1≤k;omega,(decide_eq_true (hnx.2 (.inl hyes))).symm⟩,ent_of [] [] [] rfl (sk) (sk) rfl,by show k - (j+1)<k - j;omega⟩
   ·have n1:¬ (j:Int)<(k:Nat):=n1
    have hjk:j=k:=by omega
    have hyes:x∈drs.take k:=by rw [hjk] at j2;exact of_decide_eq_true j2.symm
    rw [if_pos hyes] at hstep
    clear hjk n1 j1 j2
    refine⟨_,⟨by omega,x.cells,hcell,rfl⟩,?_⟩
    refine⟨by show 0+1≤1;omega,[Iss.cells (Iss.mk 2 ((l.map De.cells).length:Nat) x.name)],rfl,?_⟩
    refine⟨by show 0+(cur.length)≤((cur).map Iss.cells).length;simp,(cur).map Iss.cells,takeAll (by simp),by show((cur.length)+1) * 32≤140737488355328;omega,((cur)++[Iss.mk 2 ((l.map De.cells).length:Nat) x.name]).map Iss.cells,by rw [List.map_append];rfl,?_⟩
    refine vdraw_ot otO30 (by kernel_rfl) ?_
    refine⟨_,⟨by omega,x.cells,hcell,rfl⟩,?_⟩
    refine hRf.eq rfl ?_
    refine brLt (fun z=>?_) (fun z=>?_)
    ·have z:0<kk:=z
     rw [noteI,if_neg (show ¬ kk=0 by omega)] at hstep
     refine⟨_,⟨by omega,x.cells,hcell,rfl⟩,?_⟩
     refine⟨by show 0+1≤1;omega,[Iss.cells (Iss.mk kk ((l.map De.cells).length:Nat) x.name)],rfl,?_⟩
     refine⟨by show 0+(cur.length+1)≤((cur++[Iss.mk 2 ((l.map De.cells).length:Nat) x.name]).map Iss.cells).length;simp,(cur++[Iss.mk 2 ((l.map De.cells).length:Nat) x.name]).map Iss.cells,takeAll (by simp),by show((cur.length+1)+1) * 32≤140737488355328;omega,((cur++[Iss.mk 2 ((l.map De.cells).length:Nat) x.name])++[Iss.mk kk ((l.map De.cells).length:Nat) x.name]).map Iss.cells,by rw [List.map_append];rfl,?_⟩
     refine⟨_,wrap_i64 (by omega) (by omega),?_⟩
     exact⟨(k+1,(cur++[Iss.mk 2 ((l.map De.cells).length:Nat) x.name])++[Iss.mk kk ((l.map De.cells).length:Nat) x.name]),⟨by show k+1≤drs.length;omega,by rw [← k2];rw [hstep,List.append_assoc,List.append_assoc] <;> rfl⟩,ent_of [] [(1,5)] [] rfl ⟨rfl,rfl,⟨rfl,rfl⟩,congrArg (fun j:Nat=>AV.sl 5 3 0 j) ((snoc_len _ _).trans (congrArg (fun z:Nat=>z+1) (snoc_len cur _))).symm,rfl,rfl,trivial⟩ (sk) rfl,by show drs.length - (k+1)<drs.length - k;omega⟩
    ·have z:¬ 0<kk:=z
     rw [noteI,if_pos (show kk=0 by omega)] at hstep
     refine⟨_,wrap_i64 (by omega) (by omega),?_⟩
     exact⟨(k+1,cur++[Iss.mk 2 ((l.map De.cells).length:Nat) x.name]),⟨by show k+1≤drs.length;omega,by rw [← k2];rw [hstep,List.append_assoc] <;> rfl⟩,ent_of [] [(1,3)] [] rfl ⟨rfl,rfl,⟨rfl,rfl⟩,congrArg (fun j:Nat=>AV.sl 3 3 0 j) (snoc_len cur _).symm,rfl,rfl,trivial⟩ (sk) rfl,by show drs.length - (k+1)<drs.length - k;omega⟩
theorem rone_2 (l:List De) (dn:Int) (dnm dpl:List UInt8) (drs:List Rf) (dcs:List Cs) (g:Int) (hd:DcV ⟨2,dn,dnm,dpl,drs,dcs⟩) (hl:l.length≤1000) (hok:∀ d∈l,OkD d):Pure cx 56 [des l,(De.mk 2 dn dnm dpl drs dcs).pv,i64 g] (·=.ret [isl (preI l ⟨2,dn,dnm,dpl,drs,dcs⟩++(refsI l ⟨2,dn,dnm,dpl,drs,dcs⟩ [] drs++casesI l ⟨2,dn,dnm,dpl,drs,dcs⟩ g dcs))]):=by
 have hm:(l.map De.cells).length=l.length:=List.length_map ..
 have hdr:drs.length≤8:=hd.refs
 have hcs:dcs.length≤12:=hd.few
 have hca:∀ c∈dcs,CaV c:=hd.cases
 have hrn:∀ r∈drs,r.name ≠ []:=hd.ok.ok.refs
 have hbare:(2:Int)=1∨(2:Int)=5→dnm=[]:=hd.ok.ok.bare
 have hname:(2:Int)=2∨(2:Int)=3∨(2:Int)=4→dnm ≠ []:=hd.ok.ok.name
 have hplate:¬ (2:Int)=3→dpl=[]:=hd.ok.ok.plate
 have t1:=preI_len l ⟨2,dn,dnm,dpl,drs,dcs⟩
 have t2:=refsI_len l ⟨2,dn,dnm,dpl,drs,dcs⟩ drs []
 have t3:=casesI_len l ⟨2,dn,dnm,dpl,drs,dcs⟩ g dcs hca
 have hnm:=hname (.inl rfl)
 have hpl:=hplate (by decide)
 have hpre:preI l ⟨2,dn,dnm,dpl,drs,dcs⟩=twiceI l ⟨2,dn,dnm,dpl,drs,dcs⟩++sizeI l ⟨2,dn,dnm,dpl,drs,dcs⟩:=rfl
 have hT:=twice_cases l (d:=⟨2,dn,dnm,dpl,drs,dcs⟩) hnm hl hok
 refine pure_of_vc Tryz.func56 rfl rfl rfl ?_
 apply cut
 case h=>
  intro key
  refine And.intro (fun h=>absurd (show(2:Int)=1 from h) (by decide)) (fun _=>?_)
  refine Or.elim hT (fun hT=>?_) (fun hT=>?_)
  ·obtain⟨hT1,hT2⟩:=hT
   refine hT2.eq rfl ?_
   refine And.intro (fun _=>?_) (fun h=>absurd rfl h)
   refine brLt (fun c1=>?_) (fun c1=>?_)
   ·have c1:dn<1:=c1
    have hc:sizeI l ⟨2,dn,dnm,dpl,drs,dcs⟩=[Iss.mk 5 ((l.map De.cells).length:Nat) dnm]:=by rw [sizeI,if_pos (.inl c1),hm]
    refine⟨by show 0+1≤1;omega,[Iss.cells (Iss.mk 5 ((l.map De.cells).length:Nat) dnm)],rfl,?_⟩
    refine⟨by show 1 * 32≤140737488355328;decide,?_⟩
    refine And.intro (fun _=>?_) (fun h=>absurd hpl h)
    refine And.intro (fun h=>absurd (show(2:Int)=3 from h) (by decide)) (fun _=>?_)
    refine And.intro (fun h=>absurd (show(2:Int)=4 from h) (by decide)) (fun _=>?_)
    exact⟨Nat × List Iss,(fun x=>[(0, .p (des l)),(2, .p (i64 g)),(4, .ptr 0 0 0),(7, .sl 1 3 0 x.2.length),(8, .p (i64 (l.map De.cells).length)),(13, .p (i64 x.1))]),(fun x=>⟨2,[(1,isO x.2),(0,dcO ⟨2,dn,dnm,dpl,drs,dcs⟩)]⟩),(fun x=>x.1≤drs.length∧x.2++refsI l ⟨2,dn,dnm,dpl,drs,dcs⟩ (drs.take x.1) (drs.drop x.1)=preI l ⟨2,dn,dnm,dpl,drs,dcs⟩++refsI l ⟨2,dn,dnm,dpl,drs,dcs⟩ [] drs),(fun x=>drs.length - x.1),⟨(0,[Iss.mk 5 ((l.map De.cells).length:Nat) dnm]),⟨Nat.zero_le _,by show [Iss.mk 5 ((l.map De.cells).length:Nat) dnm]++_=_;rw [hpre,hT1,hc];rfl⟩,ent_of [] [(1,3)] [] rfl (sk) (sk) rfl⟩,key.get⟩
   have c1:¬ dn<1:=c1
   refine brLt (fun c2=>?_) (fun c2=>?_)
   ·have c2:6<dn:=c2
    have hc:sizeI l ⟨2,dn,dnm,dpl,drs,dcs⟩=[Iss.mk 5 ((l.map De.cells).length:Nat) dnm]:=by rw [sizeI,if_pos (.inr c2),hm]
    refine⟨by show 0+1≤1;omega,[Iss.cells (Iss.mk 5 ((l.map De.cells).length:Nat) dnm)],rfl,?_⟩
    refine⟨by show 1 * 32≤140737488355328;decide,?_⟩
    refine And.intro (fun _=>?_) (fun h=>absurd hpl h)
    refine And.intro (fun h=>absurd (show(2:Int)=3 from h) (by decide)) (fun _=>?_)
    refine And.intro (fun h=>absurd (show(2:Int)=4 from h) (by decide)) (fun _=>?_)
    exact⟨Nat × List Iss,(fun x=>[(0, .p (des l)),(2, .p (i64 g)),(4, .ptr 0 0 0),(7, .sl 1 3 0 x.2.length),(8, .p (i64 (l.map De.cells).length)),(13, .p (i64 x.1))]),(fun x=>⟨2,[(1,isO x.2),(0,dcO ⟨2,dn,dnm,dpl,drs,dcs⟩)]⟩),(fun x=>x.1≤drs.length∧x.2++refsI l ⟨2,dn,dnm,dpl,drs,dcs⟩ (drs.take x.1) (drs.drop x.1)=preI l ⟨2,dn,dnm,dpl,drs,dcs⟩++refsI l ⟨2,dn,dnm,dpl,drs,dcs⟩ [] drs),(fun x=>drs.length - x.1),⟨(0,[Iss.mk 5 ((l.map De.cells).length:Nat) dnm]),⟨Nat.zero_le _,by show [Iss.mk 5 ((l.map De.cells).length:Nat) dnm]++_=_;rw [hpre,hT1,hc];rfl⟩,ent_of [] [(1,3)] [] rfl (sk) (sk) rfl⟩,key.get⟩
   ·have c2:¬ 6<dn:=c2
    have hc:sizeI l ⟨2,dn,dnm,dpl,drs,dcs⟩=[]:=by rw [sizeI,if_neg (show ¬ (dn<1∨6<dn) by omega)]
    refine And.intro (fun _=>?_) (fun h=>absurd hpl h)
    refine And.intro (fun h=>absurd (show(2:Int)=3 from h) (by decide)) (fun _=>?_)
    refine And.intro (fun h=>absurd (show(2:Int)=4 from h) (by decide)) (fun _=>?_)
    exact⟨Nat × List Iss,(fun x=>[(0, .p (des l)),(2, .p (i64 g)),(4, .ptr 0 0 0),(7, .sl 1 3 0 x.2.length),(8, .p (i64 (l.map De.cells).length)),(13, .p (i64 x.1))]),(fun x=>⟨2,[(1,isO x.2),(0,dcO ⟨2,dn,dnm,dpl,drs,dcs⟩)]⟩),(fun x=>x.1≤drs.length∧x.2++refsI l ⟨2,dn,dnm,dpl,drs,dcs⟩ (drs.take x.1) (drs.drop x.1)=preI l ⟨2,dn,dnm,dpl,drs,dcs⟩++refsI l ⟨2,dn,dnm,dpl,drs,dcs⟩ [] drs),(fun x=>drs.length - x.1),⟨(0,[]),⟨Nat.zero_le _,by show []++_=_;rw [hpre,hT1,hc];rfl⟩,ent_of [] [] [(1,3)] rfl (sk) (sk) rfl⟩,key.get⟩
  ·obtain⟨z1,z2,z3,z4,z5,hT1,hT2⟩:=hT
   refine hT2.eq rfl ?_
   refine And.intro (fun h=>absurd h hnm) (fun _=>?_)
   refine⟨by show 0+1≤1;omega,[Iss.cells (Iss.mk 2 ((l.map De.cells).length:Nat) dnm)],rfl,?_⟩
   refine⟨by show 1 * 32≤140737488355328;decide,?_⟩
   refine And.intro (fun _=>?_) (fun h=>absurd rfl h)
   refine brLt (fun c1=>?_) (fun c1=>?_)
   ·have c1:dn<1:=c1
    have hc:sizeI l ⟨2,dn,dnm,dpl,drs,dcs⟩=[Iss.mk 5 ((l.map De.cells).length:Nat) dnm]:=by rw [sizeI,if_pos (.inl c1),hm]
    refine⟨by show 0+1≤1;omega,[Iss.cells (Iss.mk 5 ((l.map De.cells).length:Nat) dnm)],rfl,?_⟩
    refine⟨by show 0+1≤1;decide,[Iss.cells (Iss.mk 2 ((l.map De.cells).length:Nat) dnm)],rfl,by show(1+1) * 32≤140737488355328;decide,[Iss.cells (Iss.mk 2 ((l.map De.cells).length:Nat) dnm),Iss.cells (Iss.mk 5 ((l.map De.cells).length:Nat) dnm)],rfl,?_⟩
    refine And.intro (fun _=>?_) (fun h=>absurd hpl h)
    refine And.intro (fun h=>absurd (show(2:Int)=3 from h) (by decide)) (fun _=>?_)
    refine And.intro (fun h=>absurd (show(2:Int)=4 from h) (by decide)) (fun _=>?_)
    exact⟨Nat × List Iss,(fun x=>[(0, .p (des l)),(2, .p (i64 g)),(4, .ptr 0 0 0),(7, .sl 1 3 0 x.2.length),(8, .p (i64 (l.map De.cells).length)),(13, .p (i64 x.1))]),(fun x=>⟨2,[(1,isO x.2),(0,dcO ⟨2,dn,dnm,dpl,drs,dcs⟩)]⟩),(fun x=>x.1≤drs.length∧x.2++refsI l ⟨2,dn,dnm,dpl,drs,dcs⟩ (drs.take x.1) (drs.drop x.1)=preI l ⟨2,dn,dnm,dpl,drs,dcs⟩++refsI l ⟨2,dn,dnm,dpl,drs,dcs⟩ [] drs),(fun x=>drs.length - x.1),⟨(0,[Iss.mk 2 ((l.map De.cells).length:Nat) dnm,Iss.mk 5 ((l.map De.cells).length:Nat) dnm]),⟨Nat.zero_le _,by show [Iss.mk 2 ((l.map De.cells).length:Nat) dnm,Iss.mk 5 ((l.map De.cells).length:Nat) dnm]++_=_;rw [hpre,hT1,hc];rfl⟩,ent_of [] [(1,5)] [] rfl (sk) (sk) rfl⟩,key.get⟩
   have c1:¬ dn<1:=c1
   refine brLt (fun c2=>?_) (fun c2=>?_)
   ·have c2:6<dn:=c2
    have hc:sizeI l ⟨2,dn,dnm,dpl,drs,dcs⟩=[Iss.mk 5 ((l.map De.cells).length:Nat) dnm]:=by rw [sizeI,if_pos (.inr c2),hm]
    refine⟨by show 0+1≤1;omega,[Iss.cells (Iss.mk 5 ((l.map De.cells).length:Nat) dnm)],rfl,?_⟩
    refine⟨by show 0+1≤1;decide,[Iss.cells (Iss.mk 2 ((l.map De.cells).length:Nat) dnm)],rfl,by show(1+1) * 32≤140737488355328;decide,[Iss.cells (Iss.mk 2 ((l.map De.cells).length:Nat) dnm),Iss.cells (Iss.mk 5 ((l.map De.cells).length:Nat) dnm)],rfl,?_⟩
    refine And.intro (fun _=>?_) (fun h=>absurd hpl h)
    refine And.intro (fun h=>absurd (show(2:Int)=3 from h) (by decide)) (fun _=>?_)
    refine And.intro (fun h=>absurd (show(2:Int)=4 from h) (by decide)) (fun _=>?_)
    exact⟨Nat × List Iss,(fun x=>[(0, .p (des l)),(2, .p (i64 g)),(4, .ptr 0 0 0),(7, .sl 1 3 0 x.2.length),(8, .p (i64 (l.map De.cells).length)),(13, .p (i64 x.1))]),(fun x=>⟨2,[(1,isO x.2),(0,dcO ⟨2,dn,dnm,dpl,drs,dcs⟩)]⟩),(fun x=>x.1≤drs.length∧x.2++refsI l ⟨2,dn,dnm,dpl,drs,dcs⟩ (drs.take x.1) (drs.drop x.1)=preI l ⟨2,dn,dnm,dpl,drs,dcs⟩++refsI l ⟨2,dn,dnm,dpl,drs,dcs⟩ [] drs),(fun x=>drs.length - x.1),⟨(0,[Iss.mk 2 ((l.map De.cells).length:Nat) dnm,Iss.mk 5 ((l.map De.cells).length:Nat) dnm]),⟨Nat.zero_le _,by show [Iss.mk 2 ((l.map De.cells).length:Nat) dnm,Iss.mk 5 ((l.map De.cells).length:Nat) dnm]++_=_;rw [hpre,hT1,hc];rfl⟩,ent_of [] [(1,5)] [] rfl (sk) (sk) rfl⟩,key.get⟩
   ·have c2:¬ 6<dn:=c2
    have hc:sizeI l ⟨2,dn,dnm,dpl,drs,dcs⟩=[]:=by rw [sizeI,if_neg (show ¬ (dn<1∨6<dn) by omega)]
    refine And.intro (fun _=>?_) (fun h=>absurd hpl h)
    refine And.intro (fun h=>absurd (show(2:Int)=3 from h) (by decide)) (fun _=>?_)
    refine And.intro (fun h=>absurd (show(2:Int)=4 from h) (by decide)) (fun _=>?_)
    exact⟨Nat × List Iss,(fun x=>[(0, .p (des l)),(2, .p (i64 g)),(4, .ptr 0 0 0),(7, .sl 1 3 0 x.2.length),(8, .p (i64 (l.map De.cells).length)),(13, .p (i64 x.1))]),(fun x=>⟨2,[(1,isO x.2),(0,dcO ⟨2,dn,dnm,dpl,drs,dcs⟩)]⟩),(fun x=>x.1≤drs.length∧x.2++refsI l ⟨2,dn,dnm,dpl,drs,dcs⟩ (drs.take x.1) (drs.drop x.1)=preI l ⟨2,dn,dnm,dpl,drs,dcs⟩++refsI l ⟨2,dn,dnm,dpl,drs,dcs⟩ [] drs),(fun x=>drs.length - x.1),⟨(0,[Iss.mk 2 ((l.map De.cells).length:Nat) dnm]),⟨Nat.zero_le _,by show [Iss.mk 2 ((l.map De.cells).length:Nat) dnm]++_=_;rw [hpre,hT1,hc];rfl⟩,ent_of [] [(1,3)] [] rfl (sk) (sk) rfl⟩,key.get⟩
 case k=>
  rintro⟨k,cur⟩ ⟨k1,k2⟩
  simp only [] at k1 k2
  have hcl:cur.length≤400:=by
   have e:=congrArg List.length k2
   rw [List.length_append,List.length_append] at e
   omega
  (first | refine brLt (fun m1=>?_) (fun m1=>?_) | refine brLe (fun m1=>?_) (fun m1=>?_) | refine brEq (fun m1=>?_) (fun m1=>?_))
  rotate_left
  ·have m1:¬ (k:Int)<((drs.map Rf.cells).length:Nat):=m1
   rw [List.length_map] at m1
   rw [List.drop_eq_nil_of_le (by omega),refsI,List.append_nil] at k2
   refine⟨Nat × List Iss,fun x=>[(0, .p (des l)),(2, .p (i64 g)),(4, .ptr 0 0 0),(7, .sl 1 3 0 x.2.length),(8, .p (i64 (l.map De.cells).length)),(17, .p (i64 x.1))],fun x=>⟨2,[(1,isO x.2),(0,dcO ⟨2,dn,dnm,dpl,drs,dcs⟩)]⟩,fun x=>x.1≤dcs.length∧x.2++casesI l ⟨2,dn,dnm,dpl,drs,dcs⟩ g (dcs.drop x.1)=cur++casesI l ⟨2,dn,dnm,dpl,drs,dcs⟩ g dcs,fun x=>dcs.length - x.1,?_,?_⟩
   ·exact⟨(0,cur),⟨Nat.zero_le _,rfl⟩,ent_of [] [] [] rfl (sk) (sk) rfl⟩
   rintro⟨j,cu⟩ ⟨j1,j2⟩
   simp only [] at j1 j2
   have htot:(cur++casesI l ⟨2,dn,dnm,dpl,drs,dcs⟩ g dcs).length≤1000:=by rw [List.length_append];omega
   (first | refine brLt (fun n1=>?_) (fun n1=>?_) | refine brLe (fun n1=>?_) (fun n1=>?_) | refine brEq (fun n1=>?_) (fun n1=>?_))
   rotate_left
   ·have n1:¬ (j:Int)<((dcs.map Cs.cells).length:Nat):=n1
    rw [List.length_map] at n1
    rw [List.drop_eq_nil_of_le (by omega),show casesI l ⟨2,dn,dnm,dpl,drs,dcs⟩ g []=[] from rfl,List.append_nil] at j2
    exact end1 (isl cu) rfl ⟨_,rfl,by show 0+cu.length≤(cu.map Iss.cells).length;simp,takeAll (by simp)⟩ (by rw [j2,k2,List.append_assoc])
   have n1:(j:Int)<((dcs.map Cs.cells).length:Nat):=n1
   rw [List.length_map] at n1
   have hj:j<dcs.length:=by omega
   have hcell:=scell hj
   have hx:=(hca _ (getD_memL cs0 hj)).ok
   rw [dropD cs0 hj,casesI_step,← List.append_assoc,← List.append_assoc] at j2
   rw [← j2,List.length_append,List.length_append] at htot
   generalize dcs.getD j cs0=x at hcell hx j2 htot
   obtain⟨⟨xo,xn,xr,xv,xf,xs,xa⟩,xw⟩:=x
   obtain⟨x1,x2,x3⟩:=hx
   simp only [] at x1 x2 x3 j2 htot
   have hr:=scrrow_c ⟨2,dn,dnm,dpl,drs,dcs⟩ xw g x2 x3
   refine vdraw_ot otO36 (by kernel_rfl) ?_
   refine⟨_,⟨by omega,(⟨.mk xo xn xr xv xf xs xa,xw⟩:Cs).cells,hcell,rfl⟩,?_⟩
   refine(rcond_h l ⟨2,dn,dnm,dpl,drs,dcs⟩ (by show drs.length≤100;omega) hl hok _ (.mk xo xn xr xv xf xs xa) cu (Nat.le_refl _) x1 (by omega)).holds.useT [] [(0,1)] rfl (sk) (sk) fun e0 H0 hq=>?_
   obtain⟨rfl,rfl⟩:=hq
   have hnl:(cu++condI l ⟨2,dn,dnm,dpl,drs,dcs⟩ (.mk xo xn xr xv xf xs xa)).length≤1000:=by omega
   generalize cu++condI l ⟨2,dn,dnm,dpl,drs,dcs⟩ (.mk xo xn xr xv xf xs xa)=nxt at j2 hnl ⊢
   refine⟨rfl,_,⟨3,(2,isO nxt)::[(0,dcO ⟨2,dn,dnm,dpl,drs,dcs⟩)]⟩,rfl,rfl,?_⟩
   refine vdraw_ot otO37 (by kernel_rfl) ?_
   refine⟨_,⟨by omega,(⟨.mk xo xn xr xv xf xs xa,xw⟩:Cs).cells,hcell,rfl⟩,?_⟩
   by_cases hrow:rowI ⟨2,dn,dnm,dpl,drs,dcs⟩ xw g=true
   ·rw [hrow] at hr j2
    rw [if_pos rfl,List.append_nil] at j2
    refine hr.eq rfl ?_
    refine⟨_,wrap_i64 (by omega) (by omega),?_⟩
    exact⟨(j+1,nxt),⟨by show j+1≤dcs.length;omega,j2⟩,ent_of [] [(1,2)] [] rfl (sk) (sk) rfl,by show dcs.length - (j+1)<dcs.length - j;omega⟩
   ·rw [Bool.not_eq_true] at hrow
    rw [hrow] at hr j2
    rw [if_neg (by decide),← hm] at j2
    refine hr.eq rfl ?_
    refine⟨by show 0+1≤1;omega,[Iss.cells (Iss.mk 9 ((l.map De.cells).length:Nat) [])],rfl,?_⟩
    refine⟨by show 0+(nxt.length)≤((nxt).map Iss.cells).length;simp,(nxt).map Iss.cells,takeAll (by simp),by show((nxt.length)+1) * 32≤140737488355328;omega,((nxt)++[Iss.mk 9 ((l.map De.cells).length:Nat) []]).map Iss.cells,by rw [List.map_append];rfl,?_⟩
    refine⟨_,wrap_i64 (by omega) (by omega),?_⟩
    exact⟨(j+1,nxt++[Iss.mk 9 ((l.map De.cells).length:Nat) []]),⟨by show j+1≤dcs.length;omega,j2⟩,ent_of [] [(1,4)] [] rfl ⟨rfl,rfl,⟨rfl,rfl⟩,congrArg (fun j:Nat=>AV.sl 4 3 0 j) (snoc_len _ _).symm,rfl,rfl,trivial⟩ (sk) rfl,by show dcs.length - (j+1)<dcs.length - j;omega⟩
  have m1:(k:Int)<((drs.map Rf.cells).length:Nat):=m1
  rw [List.length_map] at m1
  have hk:k<drs.length:=by omega
  have hcell:=rcell hk
  have hxn:=hrn _ (getD_memL rf0 hk)
  have hstep:refsI l ⟨2,dn,dnm,dpl,drs,dcs⟩ (drs.take k) (drs.drop k)=(if drs.getD k rf0∈drs.take k then [⟨2,((l.map De.cells).length:Nat),(drs.getD k rf0).name⟩] else [])++(noteI (refI l ⟨2,dn,dnm,dpl,drs,dcs⟩ (drs.getD k rf0)) ((l.map De.cells).length:Nat) (drs.getD k rf0).name++refsI l ⟨2,dn,dnm,dpl,drs,dcs⟩ (drs.take (k+1)) (drs.drop (k+1))):=by
   rw [dropD rf0 hk,refsI,hm,take_succ_getD rf0 hk]
  generalize drs.getD k rf0=x at hcell hxn hstep
  have hRf:=scref_c l ⟨2,dn,dnm,dpl,drs,dcs⟩ x hxn hl hok
  have hnn:=refI_nn l ⟨2,dn,dnm,dpl,drs,dcs⟩ x
  generalize refI l ⟨2,dn,dnm,dpl,drs,dcs⟩ x=kk at hRf hnn hstep
  refine⟨Nat × Bool,fun y=>[(0, .p (des l)),(2, .p (i64 g)),(4, .ptr 0 0 0),(7, .sl 1 3 0 cur.length),(8, .p (i64 (l.map De.cells).length)),(13, .p (i64 k)),(14, .p (.bool y.2)),(15, .p (i64 y.1))],fun _=>⟨2,[(1,isO cur),(0,dcO ⟨2,dn,dnm,dpl,drs,dcs⟩)]⟩,fun y=>y.1≤k∧y.2=decide (x∈drs.take y.1),fun y=>k - y.1,?_,?_⟩
  ·exact⟨(0,false),⟨Nat.zero_le _,by simp⟩,ent_of [] [] [] rfl (sk) (sk) rfl⟩
  rintro⟨j,b⟩ ⟨j1,j2⟩
  simp only [] at j1 j2
  cases b
  ·(first | refine brLt (fun n1=>?_) (fun n1=>?_) | refine brLe (fun n1=>?_) (fun n1=>?_) | refine brEq (fun n1=>?_) (fun n1=>?_))
   ·have n1:(j:Int)<(k:Nat):=n1
    have hj:j<drs.length:=by omega
    have hcj:=rcell hj
    have hnx:(x∈drs.take (j+1)) ↔ (x∈drs.take j∨x=drs.getD j rf0):=by rw [take_succ_getD rf0 hj,List.mem_append,List.mem_singleton]
    generalize drs.getD j rf0=y at hcj hnx
    refine vdraw_ot otO27 (by kernel_rfl) ?_
    refine⟨_,⟨by omega,y.cells,hcj,rfl⟩,?_⟩
    refine⟨_,⟨by omega,x.cells,hcell,rfl⟩,?_⟩
    refine⟨⟨by kernel_rfl,by kernel_rfl⟩,fun e1=>?_,fun e1=>?_⟩
    ·have e1:y=x:=rf_ext (by first | exact e1 | (injection e1))
     refine⟨_,wrap_i64 (by omega) (by omega),?_⟩
     exact⟨(j+1,true),⟨by show j+1≤k;omega,(decide_eq_true (hnx.2 (.inr e1.symm))).symm⟩,ent_of [] [] [] rfl (sk) (sk) rfl,by show k - (j+1)<k - j;omega⟩
    ·have e1:¬ y=x:=fun e=>e1 (by rw [e])
     have hno:¬ x∈drs.take j:=of_decide_eq_false j2.symm
     refine⟨_,wrap_i64 (by omega) (by omega),?_⟩
     exact⟨(j+1,false),⟨by show j+1≤k;omega,(decide_eq_false (fun h=>(hnx.1 h).elim hno fun e=>e1 e.symm)).symm⟩,ent_of [] [] [] rfl (sk) (sk) rfl,by show k - (j+1)<k - j;omega⟩
   ·have n1:¬ (j:Int)<(k:Nat):=n1
    have hjk:j=k:=by omega
    have hno:¬ x∈drs.take k:=by rw [hjk] at j2;exact of_decide_eq_false j2.symm
    rw [if_neg hno] at hstep
    clear hjk n1 j1 j2
    refine vdraw_ot otO30 (by kernel_rfl) ?_
    refine⟨_,⟨by omega,x.cells,hcell,rfl⟩,?_⟩
    refine hRf.eq rfl ?_
    refine brLt (fun z=>?_) (fun z=>?_)
    ·have z:0<kk:=z
     rw [noteI,if_neg (show ¬ kk=0 by omega)] at hstep
     refine⟨_,⟨by omega,x.cells,hcell,rfl⟩,?_⟩
     refine⟨by show 0+1≤1;omega,[Iss.cells (Iss.mk kk ((l.map De.cells).length:Nat) x.name)],rfl,?_⟩
     refine⟨by show 0+(cur.length)≤((cur).map Iss.cells).length;simp,(cur).map Iss.cells,takeAll (by simp),by show((cur.length)+1) * 32≤140737488355328;omega,((cur)++[Iss.mk kk ((l.map De.cells).length:Nat) x.name]).map Iss.cells,by rw [List.map_append];rfl,?_⟩
     refine⟨_,wrap_i64 (by omega) (by omega),?_⟩
     exact⟨(k+1,(cur)++[Iss.mk kk ((l.map De.cells).length:Nat) x.name]),⟨by show k+1≤drs.length;omega,by rw [← k2];rw [hstep,List.append_assoc] <;> rfl⟩,ent_of [] [(1,3)] [] rfl ⟨rfl,rfl,⟨rfl,rfl⟩,congrArg (fun j:Nat=>AV.sl 3 3 0 j) (snoc_len cur _).symm,rfl,rfl,trivial⟩ (sk) rfl,by show drs.length - (k+1)<drs.length - k;omega⟩
    ·have z:¬ 0<kk:=z
     rw [noteI,if_pos (show kk=0 by omega)] at hstep
     refine⟨_,wrap_i64 (by omega) (by omega),?_⟩
     exact⟨(k+1,cur),⟨by show k+1≤drs.length;omega,by rw [← k2];rw [hstep] <;> rfl⟩,ent_of [] [(1,1)] [] rfl ⟨rfl,rfl,⟨rfl,rfl⟩,rfl,rfl,rfl,trivial⟩ (sk) rfl,by show drs.length - (k+1)<drs.length - k;omega⟩
  ·(first | refine brLt (fun n1=>?_) (fun n1=>?_) | refine brLe (fun n1=>?_) (fun n1=>?_) | refine brEq (fun n1=>?_) (fun n1=>?_))
   ·have n1:(j:Int)<(k:Nat):=n1
    have hj:j<drs.length:=by omega
    have hnx:(x∈drs.take (j+1)) ↔ (x∈drs.take j∨x=drs.getD j rf0):=by rw [take_succ_getD rf0 hj,List.mem_append,List.mem_singleton]
    have hyes:x∈drs.take j:=of_decide_eq_true j2.symm
    refine vdraw_ot otO27 (by kernel_rfl) ?_
    refine⟨_,wrap_i64 (by omega) (by omega),?_⟩
    exact⟨(j+1,true),⟨by show j+1≤k;omega,(decide_eq_true (hnx.2 (.inl hyes))).symm⟩,ent_of [] [] [] rfl (sk) (sk) rfl,by show k - (j+1)<k - j;omega⟩
   ·have n1:¬ (j:Int)<(k:Nat):=n1
    have hjk:j=k:=by omega
    have hyes:x∈drs.take k:=by rw [hjk] at j2;exact of_decide_eq_true j2.symm
    rw [if_pos hyes] at hstep
    clear hjk n1 j1 j2
    refine⟨_,⟨by omega,x.cells,hcell,rfl⟩,?_⟩
    refine⟨by show 0+1≤1;omega,[Iss.cells (Iss.mk 2 ((l.map De.cells).length:Nat) x.name)],rfl,?_⟩
    refine⟨by show 0+(cur.length)≤((cur).map Iss.cells).length;simp,(cur).map Iss.cells,takeAll (by simp),by show((cur.length)+1) * 32≤140737488355328;omega,((cur)++[Iss.mk 2 ((l.map De.cells).length:Nat) x.name]).map Iss.cells,by rw [List.map_append];rfl,?_⟩
    refine vdraw_ot otO30 (by kernel_rfl) ?_
    refine⟨_,⟨by omega,x.cells,hcell,rfl⟩,?_⟩
    refine hRf.eq rfl ?_
    refine brLt (fun z=>?_) (fun z=>?_)
    ·have z:0<kk:=z
     rw [noteI,if_neg (show ¬ kk=0 by omega)] at hstep
     refine⟨_,⟨by omega,x.cells,hcell,rfl⟩,?_⟩
     refine⟨by show 0+1≤1;omega,[Iss.cells (Iss.mk kk ((l.map De.cells).length:Nat) x.name)],rfl,?_⟩
     refine⟨by show 0+(cur.length+1)≤((cur++[Iss.mk 2 ((l.map De.cells).length:Nat) x.name]).map Iss.cells).length;simp,(cur++[Iss.mk 2 ((l.map De.cells).length:Nat) x.name]).map Iss.cells,takeAll (by simp),by show((cur.length+1)+1) * 32≤140737488355328;omega,((cur++[Iss.mk 2 ((l.map De.cells).length:Nat) x.name])++[Iss.mk kk ((l.map De.cells).length:Nat) x.name]).map Iss.cells,by rw [List.map_append];rfl,?_⟩
     refine⟨_,wrap_i64 (by omega) (by omega),?_⟩
     exact⟨(k+1,(cur++[Iss.mk 2 ((l.map De.cells).length:Nat) x.name])++[Iss.mk kk ((l.map De.cells).length:Nat) x.name]),⟨by show k+1≤drs.length;omega,by rw [← k2];rw [hstep,List.append_assoc,List.append_assoc] <;> rfl⟩,ent_of [] [(1,5)] [] rfl ⟨rfl,rfl,⟨rfl,rfl⟩,congrArg (fun j:Nat=>AV.sl 5 3 0 j) ((snoc_len _ _).trans (congrArg (fun z:Nat=>z+1) (snoc_len cur _))).symm,rfl,rfl,trivial⟩ (sk) rfl,by show drs.length - (k+1)<drs.length - k;omega⟩
    ·have z:¬ 0<kk:=z
     rw [noteI,if_pos (show kk=0 by omega)] at hstep
     refine⟨_,wrap_i64 (by omega) (by omega),?_⟩
     exact⟨(k+1,cur++[Iss.mk 2 ((l.map De.cells).length:Nat) x.name]),⟨by show k+1≤drs.length;omega,by rw [← k2];rw [hstep,List.append_assoc] <;> rfl⟩,ent_of [] [(1,3)] [] rfl ⟨rfl,rfl,⟨rfl,rfl⟩,congrArg (fun j:Nat=>AV.sl 3 3 0 j) (snoc_len cur _).symm,rfl,rfl,trivial⟩ (sk) rfl,by show drs.length - (k+1)<drs.length - k;omega⟩
theorem rone_3 (l:List De) (dn:Int) (dnm dpl:List UInt8) (drs:List Rf) (dcs:List Cs) (g:Int) (hd:DcV ⟨3,dn,dnm,dpl,drs,dcs⟩) (hl:l.length≤1000) (hok:∀ d∈l,OkD d):Pure cx 56 [des l,(De.mk 3 dn dnm dpl drs dcs).pv,i64 g] (·=.ret [isl (preI l ⟨3,dn,dnm,dpl,drs,dcs⟩++(refsI l ⟨3,dn,dnm,dpl,drs,dcs⟩ [] drs++casesI l ⟨3,dn,dnm,dpl,drs,dcs⟩ g dcs))]):=by
 have hm:(l.map De.cells).length=l.length:=List.length_map ..
 have hdr:drs.length≤8:=hd.refs
 have hcs:dcs.length≤12:=hd.few
 have hca:∀ c∈dcs,CaV c:=hd.cases
 have hrn:∀ r∈drs,r.name ≠ []:=hd.ok.ok.refs
 have hbare:(3:Int)=1∨(3:Int)=5→dnm=[]:=hd.ok.ok.bare
 have hname:(3:Int)=2∨(3:Int)=3∨(3:Int)=4→dnm ≠ []:=hd.ok.ok.name
 have hplate:¬ (3:Int)=3→dpl=[]:=hd.ok.ok.plate
 have t1:=preI_len l ⟨3,dn,dnm,dpl,drs,dcs⟩
 have t2:=refsI_len l ⟨3,dn,dnm,dpl,drs,dcs⟩ drs []
 have t3:=casesI_len l ⟨3,dn,dnm,dpl,drs,dcs⟩ g dcs hca
 have hnm:=hname (.inr (.inl rfl))
 have hpre:preI l ⟨3,dn,dnm,dpl,drs,dcs⟩=twiceI l ⟨3,dn,dnm,dpl,drs,dcs⟩++(plateI l ⟨3,dn,dnm,dpl,drs,dcs⟩++cardI l ⟨3,dn,dnm,dpl,drs,dcs⟩):=rfl
 have hT:=twice_cases l (d:=⟨3,dn,dnm,dpl,drs,dcs⟩) hnm hl hok
 have hP:=plate_cases l ⟨3,dn,dnm,dpl,drs,dcs⟩ hl hok
 refine pure_of_vc Tryz.func56 rfl rfl rfl ?_
 apply cut
 case h=>
  intro key
  refine And.intro (fun h=>absurd (show(3:Int)=1 from h) (by decide)) (fun _=>?_)
  refine Or.elim hT (fun hT=>?_) (fun hT=>?_)
  ·obtain⟨hT1,hT2⟩:=hT
   refine hT2.eq rfl ?_
   refine And.intro (fun h=>absurd (show(3:Int)=2 from h) (by decide)) (fun _=>?_)
   refine Or.elim hP (fun hp=>?_) (fun hp=>?_)
   ·obtain⟨hp1,hp2⟩:=hp
    refine And.intro (fun _=>?_) (fun h=>absurd hp1 h)
    refine And.intro (fun _=>?_) (fun h=>absurd rfl h)
    refine brLt (fun c1=>?_) (fun c1=>?_)
    ·have c1:dn<2:=c1
     have hc:cardI l ⟨3,dn,dnm,dpl,drs,dcs⟩=[Iss.mk 6 ((l.map De.cells).length:Nat) dnm]:=by rw [cardI,if_pos (.inl c1),hm]
     refine⟨by show 0+1≤1;omega,[Iss.cells (Iss.mk 6 ((l.map De.cells).length:Nat) dnm)],rfl,?_⟩
     refine⟨by show 1 * 32≤140737488355328;decide,?_⟩
     exact⟨Nat × List Iss,(fun x=>[(0, .p (des l)),(2, .p (i64 g)),(4, .ptr 0 0 0),(7, .sl 1 3 0 x.2.length),(8, .p (i64 (l.map De.cells).length)),(13, .p (i64 x.1))]),(fun x=>⟨2,[(1,isO x.2),(0,dcO ⟨3,dn,dnm,dpl,drs,dcs⟩)]⟩),(fun x=>x.1≤drs.length∧x.2++refsI l ⟨3,dn,dnm,dpl,drs,dcs⟩ (drs.take x.1) (drs.drop x.1)=preI l ⟨3,dn,dnm,dpl,drs,dcs⟩++refsI l ⟨3,dn,dnm,dpl,drs,dcs⟩ [] drs),(fun x=>drs.length - x.1),⟨(0,[Iss.mk 6 ((l.map De.cells).length:Nat) dnm]),⟨Nat.zero_le _,by show [Iss.mk 6 ((l.map De.cells).length:Nat) dnm]++_=_;rw [hpre,hT1,hp2,hc];rfl⟩,ent_of [] [(1,3)] [] rfl (sk) (sk) rfl⟩,key.get⟩
    have c1:¬ dn<2:=c1
    refine brLt (fun c2=>?_) (fun c2=>?_)
    ·have c2:4<dn:=c2
     have hc:cardI l ⟨3,dn,dnm,dpl,drs,dcs⟩=[Iss.mk 6 ((l.map De.cells).length:Nat) dnm]:=by rw [cardI,if_pos (.inr c2),hm]
     refine⟨by show 0+1≤1;omega,[Iss.cells (Iss.mk 6 ((l.map De.cells).length:Nat) dnm)],rfl,?_⟩
     refine⟨by show 1 * 32≤140737488355328;decide,?_⟩
     exact⟨Nat × List Iss,(fun x=>[(0, .p (des l)),(2, .p (i64 g)),(4, .ptr 0 0 0),(7, .sl 1 3 0 x.2.length),(8, .p (i64 (l.map De.cells).length)),(13, .p (i64 x.1))]),(fun x=>⟨2,[(1,isO x.2),(0,dcO ⟨3,dn,dnm,dpl,drs,dcs⟩)]⟩),(fun x=>x.1≤drs.length∧x.2++refsI l ⟨3,dn,dnm,dpl,drs,dcs⟩ (drs.take x.1) (drs.drop x.1)=preI l ⟨3,dn,dnm,dpl,drs,dcs⟩++refsI l ⟨3,dn,dnm,dpl,drs,dcs⟩ [] drs),(fun x=>drs.length - x.1),⟨(0,[Iss.mk 6 ((l.map De.cells).length:Nat) dnm]),⟨Nat.zero_le _,by show [Iss.mk 6 ((l.map De.cells).length:Nat) dnm]++_=_;rw [hpre,hT1,hp2,hc];rfl⟩,ent_of [] [(1,3)] [] rfl (sk) (sk) rfl⟩,key.get⟩
    ·have c2:¬ 4<dn:=c2
     have hc:cardI l ⟨3,dn,dnm,dpl,drs,dcs⟩=[]:=by rw [cardI,if_neg (show ¬ (dn<2∨4<dn) by omega)]
     exact⟨Nat × List Iss,(fun x=>[(0, .p (des l)),(2, .p (i64 g)),(4, .ptr 0 0 0),(7, .sl 1 3 0 x.2.length),(8, .p (i64 (l.map De.cells).length)),(13, .p (i64 x.1))]),(fun x=>⟨2,[(1,isO x.2),(0,dcO ⟨3,dn,dnm,dpl,drs,dcs⟩)]⟩),(fun x=>x.1≤drs.length∧x.2++refsI l ⟨3,dn,dnm,dpl,drs,dcs⟩ (drs.take x.1) (drs.drop x.1)=preI l ⟨3,dn,dnm,dpl,drs,dcs⟩++refsI l ⟨3,dn,dnm,dpl,drs,dcs⟩ [] drs),(fun x=>drs.length - x.1),⟨(0,[]),⟨Nat.zero_le _,by show []++_=_;rw [hpre,hT1,hp2,hc];rfl⟩,ent_of [] [] [(1,3)] rfl (sk) (sk) rfl⟩,key.get⟩
   obtain⟨hp1,hp⟩:=hp
   refine And.intro (fun h=>absurd h hp1) (fun _=>?_)
   refine Or.elim hp (fun hp=>?_) (fun hp=>?_)
   ·obtain⟨hp2,hp3⟩:=hp
    refine hp3.eq rfl ?_
    refine⟨by show 0+1≤1;omega,[Iss.cells (Iss.mk 3 ((l.map De.cells).length:Nat) dpl)],rfl,?_⟩
    refine⟨by show 1 * 32≤140737488355328;decide,?_⟩
    refine And.intro (fun _=>?_) (fun h=>absurd rfl h)
    refine brLt (fun c1=>?_) (fun c1=>?_)
    ·have c1:dn<2:=c1
     have hc:cardI l ⟨3,dn,dnm,dpl,drs,dcs⟩=[Iss.mk 6 ((l.map De.cells).length:Nat) dnm]:=by rw [cardI,if_pos (.inl c1),hm]
     refine⟨by show 0+1≤1;omega,[Iss.cells (Iss.mk 6 ((l.map De.cells).length:Nat) dnm)],rfl,?_⟩
     refine⟨by show 0+1≤1;decide,[Iss.cells (Iss.mk 3 ((l.map De.cells).length:Nat) dpl)],rfl,by show(1+1) * 32≤140737488355328;decide,[Iss.cells (Iss.mk 3 ((l.map De.cells).length:Nat) dpl),Iss.cells (Iss.mk 6 ((l.map De.cells).length:Nat) dnm)],rfl,?_⟩
     exact⟨Nat × List Iss,(fun x=>[(0, .p (des l)),(2, .p (i64 g)),(4, .ptr 0 0 0),(7, .sl 1 3 0 x.2.length),(8, .p (i64 (l.map De.cells).length)),(13, .p (i64 x.1))]),(fun x=>⟨2,[(1,isO x.2),(0,dcO ⟨3,dn,dnm,dpl,drs,dcs⟩)]⟩),(fun x=>x.1≤drs.length∧x.2++refsI l ⟨3,dn,dnm,dpl,drs,dcs⟩ (drs.take x.1) (drs.drop x.1)=preI l ⟨3,dn,dnm,dpl,drs,dcs⟩++refsI l ⟨3,dn,dnm,dpl,drs,dcs⟩ [] drs),(fun x=>drs.length - x.1),⟨(0,[Iss.mk 3 ((l.map De.cells).length:Nat) dpl,Iss.mk 6 ((l.map De.cells).length:Nat) dnm]),⟨Nat.zero_le _,by show [Iss.mk 3 ((l.map De.cells).length:Nat) dpl,Iss.mk 6 ((l.map De.cells).length:Nat) dnm]++_=_;rw [hpre,hT1,hp2,hc];rfl⟩,ent_of [] [(1,6)] [] rfl (sk) (sk) rfl⟩,key.get⟩
    have c1:¬ dn<2:=c1
    refine brLt (fun c2=>?_) (fun c2=>?_)
    ·have c2:4<dn:=c2
     have hc:cardI l ⟨3,dn,dnm,dpl,drs,dcs⟩=[Iss.mk 6 ((l.map De.cells).length:Nat) dnm]:=by rw [cardI,if_pos (.inr c2),hm]
     refine⟨by show 0+1≤1;omega,[Iss.cells (Iss.mk 6 ((l.map De.cells).length:Nat) dnm)],rfl,?_⟩
     refine⟨by show 0+1≤1;decide,[Iss.cells (Iss.mk 3 ((l.map De.cells).length:Nat) dpl)],rfl,by show(1+1) * 32≤140737488355328;decide,[Iss.cells (Iss.mk 3 ((l.map De.cells).length:Nat) dpl),Iss.cells (Iss.mk 6 ((l.map De.cells).length:Nat) dnm)],rfl,?_⟩
     exact⟨Nat × List Iss,(fun x=>[(0, .p (des l)),(2, .p (i64 g)),(4, .ptr 0 0 0),(7, .sl 1 3 0 x.2.length),(8, .p (i64 (l.map De.cells).length)),(13, .p (i64 x.1))]),(fun x=>⟨2,[(1,isO x.2),(0,dcO ⟨3,dn,dnm,dpl,drs,dcs⟩)]⟩),(fun x=>x.1≤drs.length∧x.2++refsI l ⟨3,dn,dnm,dpl,drs,dcs⟩ (drs.take x.1) (drs.drop x.1)=preI l ⟨3,dn,dnm,dpl,drs,dcs⟩++refsI l ⟨3,dn,dnm,dpl,drs,dcs⟩ [] drs),(fun x=>drs.length - x.1),⟨(0,[Iss.mk 3 ((l.map De.cells).length:Nat) dpl,Iss.mk 6 ((l.map De.cells).length:Nat) dnm]),⟨Nat.zero_le _,by show [Iss.mk 3 ((l.map De.cells).length:Nat) dpl,Iss.mk 6 ((l.map De.cells).length:Nat) dnm]++_=_;rw [hpre,hT1,hp2,hc];rfl⟩,ent_of [] [(1,6)] [] rfl (sk) (sk) rfl⟩,key.get⟩
    ·have c2:¬ 4<dn:=c2
     have hc:cardI l ⟨3,dn,dnm,dpl,drs,dcs⟩=[]:=by rw [cardI,if_neg (show ¬ (dn<2∨4<dn) by omega)]
     exact⟨Nat × List Iss,(fun x=>[(0, .p (des l)),(2, .p (i64 g)),(4, .ptr 0 0 0),(7, .sl 1 3 0 x.2.length),(8, .p (i64 (l.map De.cells).length)),(13, .p (i64 x.1))]),(fun x=>⟨2,[(1,isO x.2),(0,dcO ⟨3,dn,dnm,dpl,drs,dcs⟩)]⟩),(fun x=>x.1≤drs.length∧x.2++refsI l ⟨3,dn,dnm,dpl,drs,dcs⟩ (drs.take x.1) (drs.drop x.1)=preI l ⟨3,dn,dnm,dpl,drs,dcs⟩++refsI l ⟨3,dn,dnm,dpl,drs,dcs⟩ [] drs),(fun x=>drs.length - x.1),⟨(0,[Iss.mk 3 ((l.map De.cells).length:Nat) dpl]),⟨Nat.zero_le _,by show [Iss.mk 3 ((l.map De.cells).length:Nat) dpl]++_=_;rw [hpre,hT1,hp2,hc];rfl⟩,ent_of [] [(1,4)] [] rfl (sk) (sk) rfl⟩,key.get⟩
   obtain⟨y1,y2,y3,y4,y5,hp⟩:=hp
   refine Or.elim hp (fun hp=>?_) (fun hp=>?_)
   ·obtain⟨hp2,hp3,hp4⟩:=hp
    refine hp3.eq rfl ?_
    refine And.intro (fun _=>?_) (fun h=>absurd hp4 h)
    refine And.intro (fun _=>?_) (fun h=>absurd rfl h)
    refine brLt (fun c1=>?_) (fun c1=>?_)
    ·have c1:dn<2:=c1
     have hc:cardI l ⟨3,dn,dnm,dpl,drs,dcs⟩=[Iss.mk 6 ((l.map De.cells).length:Nat) dnm]:=by rw [cardI,if_pos (.inl c1),hm]
     refine⟨by show 0+1≤1;omega,[Iss.cells (Iss.mk 6 ((l.map De.cells).length:Nat) dnm)],rfl,?_⟩
     refine⟨by show 1 * 32≤140737488355328;decide,?_⟩
     exact⟨Nat × List Iss,(fun x=>[(0, .p (des l)),(2, .p (i64 g)),(4, .ptr 0 0 0),(7, .sl 1 3 0 x.2.length),(8, .p (i64 (l.map De.cells).length)),(13, .p (i64 x.1))]),(fun x=>⟨2,[(1,isO x.2),(0,dcO ⟨3,dn,dnm,dpl,drs,dcs⟩)]⟩),(fun x=>x.1≤drs.length∧x.2++refsI l ⟨3,dn,dnm,dpl,drs,dcs⟩ (drs.take x.1) (drs.drop x.1)=preI l ⟨3,dn,dnm,dpl,drs,dcs⟩++refsI l ⟨3,dn,dnm,dpl,drs,dcs⟩ [] drs),(fun x=>drs.length - x.1),⟨(0,[Iss.mk 6 ((l.map De.cells).length:Nat) dnm]),⟨Nat.zero_le _,by show [Iss.mk 6 ((l.map De.cells).length:Nat) dnm]++_=_;rw [hpre,hT1,hp2,hc];rfl⟩,ent_of [] [(1,4)] [] rfl (sk) (sk) rfl⟩,key.get⟩
    have c1:¬ dn<2:=c1
    refine brLt (fun c2=>?_) (fun c2=>?_)
    ·have c2:4<dn:=c2
     have hc:cardI l ⟨3,dn,dnm,dpl,drs,dcs⟩=[Iss.mk 6 ((l.map De.cells).length:Nat) dnm]:=by rw [cardI,if_pos (.inr c2),hm]
     refine⟨by show 0+1≤1;omega,[Iss.cells (Iss.mk 6 ((l.map De.cells).length:Nat) dnm)],rfl,?_⟩
     refine⟨by show 1 * 32≤140737488355328;decide,?_⟩
     exact⟨Nat × List Iss,(fun x=>[(0, .p (des l)),(2, .p (i64 g)),(4, .ptr 0 0 0),(7, .sl 1 3 0 x.2.length),(8, .p (i64 (l.map De.cells).length)),(13, .p (i64 x.1))]),(fun x=>⟨2,[(1,isO x.2),(0,dcO ⟨3,dn,dnm,dpl,drs,dcs⟩)]⟩),(fun x=>x.1≤drs.length∧x.2++refsI l ⟨3,dn,dnm,dpl,drs,dcs⟩ (drs.take x.1) (drs.drop x.1)=preI l ⟨3,dn,dnm,dpl,drs,dcs⟩++refsI l ⟨3,dn,dnm,dpl,drs,dcs⟩ [] drs),(fun x=>drs.length - x.1),⟨(0,[Iss.mk 6 ((l.map De.cells).length:Nat) dnm]),⟨Nat.zero_le _,by show [Iss.mk 6 ((l.map De.cells).length:Nat) dnm]++_=_;rw [hpre,hT1,hp2,hc];rfl⟩,ent_of [] [(1,4)] [] rfl (sk) (sk) rfl⟩,key.get⟩
    ·have c2:¬ 4<dn:=c2
     have hc:cardI l ⟨3,dn,dnm,dpl,drs,dcs⟩=[]:=by rw [cardI,if_neg (show ¬ (dn<2∨4<dn) by omega)]
     exact⟨Nat × List Iss,(fun x=>[(0, .p (des l)),(2, .p (i64 g)),(4, .ptr 0 0 0),(7, .sl 1 3 0 x.2.length),(8, .p (i64 (l.map De.cells).length)),(13, .p (i64 x.1))]),(fun x=>⟨2,[(1,isO x.2),(0,dcO ⟨3,dn,dnm,dpl,drs,dcs⟩)]⟩),(fun x=>x.1≤drs.length∧x.2++refsI l ⟨3,dn,dnm,dpl,drs,dcs⟩ (drs.take x.1) (drs.drop x.1)=preI l ⟨3,dn,dnm,dpl,drs,dcs⟩++refsI l ⟨3,dn,dnm,dpl,drs,dcs⟩ [] drs),(fun x=>drs.length - x.1),⟨(0,[]),⟨Nat.zero_le _,by show []++_=_;rw [hpre,hT1,hp2,hc];rfl⟩,ent_of [] [] [(1,3)] rfl (sk) (sk) rfl⟩,key.get⟩
   ·obtain⟨hp2,hp3,hp4⟩:=hp
    refine hp3.eq rfl ?_
    refine And.intro (fun h=>absurd h hp4) (fun _=>?_)
    refine⟨by show 0+1≤1;omega,[Iss.cells (Iss.mk 4 ((l.map De.cells).length:Nat) dpl)],rfl,?_⟩
    refine⟨by show 1 * 32≤140737488355328;decide,?_⟩
    refine And.intro (fun _=>?_) (fun h=>absurd rfl h)
    refine brLt (fun c1=>?_) (fun c1=>?_)
    ·have c1:dn<2:=c1
     have hc:cardI l ⟨3,dn,dnm,dpl,drs,dcs⟩=[Iss.mk 6 ((l.map De.cells).length:Nat) dnm]:=by rw [cardI,if_pos (.inl c1),hm]
     refine⟨by show 0+1≤1;omega,[Iss.cells (Iss.mk 6 ((l.map De.cells).length:Nat) dnm)],rfl,?_⟩
     refine⟨by show 0+1≤1;decide,[Iss.cells (Iss.mk 4 ((l.map De.cells).length:Nat) dpl)],rfl,by show(1+1) * 32≤140737488355328;decide,[Iss.cells (Iss.mk 4 ((l.map De.cells).length:Nat) dpl),Iss.cells (Iss.mk 6 ((l.map De.cells).length:Nat) dnm)],rfl,?_⟩
     exact⟨Nat × List Iss,(fun x=>[(0, .p (des l)),(2, .p (i64 g)),(4, .ptr 0 0 0),(7, .sl 1 3 0 x.2.length),(8, .p (i64 (l.map De.cells).length)),(13, .p (i64 x.1))]),(fun x=>⟨2,[(1,isO x.2),(0,dcO ⟨3,dn,dnm,dpl,drs,dcs⟩)]⟩),(fun x=>x.1≤drs.length∧x.2++refsI l ⟨3,dn,dnm,dpl,drs,dcs⟩ (drs.take x.1) (drs.drop x.1)=preI l ⟨3,dn,dnm,dpl,drs,dcs⟩++refsI l ⟨3,dn,dnm,dpl,drs,dcs⟩ [] drs),(fun x=>drs.length - x.1),⟨(0,[Iss.mk 4 ((l.map De.cells).length:Nat) dpl,Iss.mk 6 ((l.map De.cells).length:Nat) dnm]),⟨Nat.zero_le _,by show [Iss.mk 4 ((l.map De.cells).length:Nat) dpl,Iss.mk 6 ((l.map De.cells).length:Nat) dnm]++_=_;rw [hpre,hT1,hp2,hc];rfl⟩,ent_of [] [(1,6)] [] rfl (sk) (sk) rfl⟩,key.get⟩
    have c1:¬ dn<2:=c1
    refine brLt (fun c2=>?_) (fun c2=>?_)
    ·have c2:4<dn:=c2
     have hc:cardI l ⟨3,dn,dnm,dpl,drs,dcs⟩=[Iss.mk 6 ((l.map De.cells).length:Nat) dnm]:=by rw [cardI,if_pos (.inr c2),hm]
     refine⟨by show 0+1≤1;omega,[Iss.cells (Iss.mk 6 ((l.map De.cells).length:Nat) dnm)],rfl,?_⟩
     refine⟨by show 0+1≤1;decide,[Iss.cells (Iss.mk 4 ((l.map De.cells).length:Nat) dpl)],rfl,by show(1+1) * 32≤140737488355328;decide,[Iss.cells (Iss.mk 4 ((l.map De.cells).length:Nat) dpl),Iss.cells (Iss.mk 6 ((l.map De.cells).length:Nat) dnm)],rfl,?_⟩
     exact⟨Nat × List Iss,(fun x=>[(0, .p (des l)),(2, .p (i64 g)),(4, .ptr 0 0 0),(7, .sl 1 3 0 x.2.length),(8, .p (i64 (l.map De.cells).length)),(13, .p (i64 x.1))]),(fun x=>⟨2,[(1,isO x.2),(0,dcO ⟨3,dn,dnm,dpl,drs,dcs⟩)]⟩),(fun x=>x.1≤drs.length∧x.2++refsI l ⟨3,dn,dnm,dpl,drs,dcs⟩ (drs.take x.1) (drs.drop x.1)=preI l ⟨3,dn,dnm,dpl,drs,dcs⟩++refsI l ⟨3,dn,dnm,dpl,drs,dcs⟩ [] drs),(fun x=>drs.length - x.1),⟨(0,[Iss.mk 4 ((l.map De.cells).length:Nat) dpl,Iss.mk 6 ((l.map De.cells).length:Nat) dnm]),⟨Nat.zero_le _,by show [Iss.mk 4 ((l.map De.cells).length:Nat) dpl,Iss.mk 6 ((l.map De.cells).length:Nat) dnm]++_=_;rw [hpre,hT1,hp2,hc];rfl⟩,ent_of [] [(1,6)] [] rfl (sk) (sk) rfl⟩,key.get⟩
    ·have c2:¬ 4<dn:=c2
     have hc:cardI l ⟨3,dn,dnm,dpl,drs,dcs⟩=[]:=by rw [cardI,if_neg (show ¬ (dn<2∨4<dn) by omega)]
     exact⟨Nat × List Iss,(fun x=>[(0, .p (des l)),(2, .p (i64 g)),(4, .ptr 0 0 0),(7, .sl 1 3 0 x.2.length),(8, .p (i64 (l.map De.cells).length)),(13, .p (i64 x.1))]),(fun x=>⟨2,[(1,isO x.2),(0,dcO ⟨3,dn,dnm,dpl,drs,dcs⟩)]⟩),(fun x=>x.1≤drs.length∧x.2++refsI l ⟨3,dn,dnm,dpl,drs,dcs⟩ (drs.take x.1) (drs.drop x.1)=preI l ⟨3,dn,dnm,dpl,drs,dcs⟩++refsI l ⟨3,dn,dnm,dpl,drs,dcs⟩ [] drs),(fun x=>drs.length - x.1),⟨(0,[Iss.mk 4 ((l.map De.cells).length:Nat) dpl]),⟨Nat.zero_le _,by show [Iss.mk 4 ((l.map De.cells).length:Nat) dpl]++_=_;rw [hpre,hT1,hp2,hc];rfl⟩,ent_of [] [(1,4)] [] rfl (sk) (sk) rfl⟩,key.get⟩
  ·obtain⟨z1,z2,z3,z4,z5,hT1,hT2⟩:=hT
   refine hT2.eq rfl ?_
   refine And.intro (fun h=>absurd h hnm) (fun _=>?_)
   refine⟨by show 0+1≤1;omega,[Iss.cells (Iss.mk 2 ((l.map De.cells).length:Nat) dnm)],rfl,?_⟩
   refine⟨by show 1 * 32≤140737488355328;decide,?_⟩
   refine And.intro (fun h=>absurd (show(3:Int)=2 from h) (by decide)) (fun _=>?_)
   refine Or.elim hP (fun hp=>?_) (fun hp=>?_)
   ·obtain⟨hp1,hp2⟩:=hp
    refine And.intro (fun _=>?_) (fun h=>absurd hp1 h)
    refine And.intro (fun _=>?_) (fun h=>absurd rfl h)
    refine brLt (fun c1=>?_) (fun c1=>?_)
    ·have c1:dn<2:=c1
     have hc:cardI l ⟨3,dn,dnm,dpl,drs,dcs⟩=[Iss.mk 6 ((l.map De.cells).length:Nat) dnm]:=by rw [cardI,if_pos (.inl c1),hm]
     refine⟨by show 0+1≤1;omega,[Iss.cells (Iss.mk 6 ((l.map De.cells).length:Nat) dnm)],rfl,?_⟩
     refine⟨by show 0+1≤1;decide,[Iss.cells (Iss.mk 2 ((l.map De.cells).length:Nat) dnm)],rfl,by show(1+1) * 32≤140737488355328;decide,[Iss.cells (Iss.mk 2 ((l.map De.cells).length:Nat) dnm),Iss.cells (Iss.mk 6 ((l.map De.cells).length:Nat) dnm)],rfl,?_⟩
     exact⟨Nat × List Iss,(fun x=>[(0, .p (des l)),(2, .p (i64 g)),(4, .ptr 0 0 0),(7, .sl 1 3 0 x.2.length),(8, .p (i64 (l.map De.cells).length)),(13, .p (i64 x.1))]),(fun x=>⟨2,[(1,isO x.2),(0,dcO ⟨3,dn,dnm,dpl,drs,dcs⟩)]⟩),(fun x=>x.1≤drs.length∧x.2++refsI l ⟨3,dn,dnm,dpl,drs,dcs⟩ (drs.take x.1) (drs.drop x.1)=preI l ⟨3,dn,dnm,dpl,drs,dcs⟩++refsI l ⟨3,dn,dnm,dpl,drs,dcs⟩ [] drs),(fun x=>drs.length - x.1),⟨(0,[Iss.mk 2 ((l.map De.cells).length:Nat) dnm,Iss.mk 6 ((l.map De.cells).length:Nat) dnm]),⟨Nat.zero_le _,by show [Iss.mk 2 ((l.map De.cells).length:Nat) dnm,Iss.mk 6 ((l.map De.cells).length:Nat) dnm]++_=_;rw [hpre,hT1,hp2,hc];rfl⟩,ent_of [] [(1,5)] [] rfl (sk) (sk) rfl⟩,key.get⟩
    have c1:¬ dn<2:=c1
    refine brLt (fun c2=>?_) (fun c2=>?_)
    ·have c2:4<dn:=c2
     have hc:cardI l ⟨3,dn,dnm,dpl,drs,dcs⟩=[Iss.mk 6 ((l.map De.cells).length:Nat) dnm]:=by rw [cardI,if_pos (.inr c2),hm]
     refine⟨by show 0+1≤1;omega,[Iss.cells (Iss.mk 6 ((l.map De.cells).length:Nat) dnm)],rfl,?_⟩
     refine⟨by show 0+1≤1;decide,[Iss.cells (Iss.mk 2 ((l.map De.cells).length:Nat) dnm)],rfl,by show(1+1) * 32≤140737488355328;decide,[Iss.cells (Iss.mk 2 ((l.map De.cells).length:Nat) dnm),Iss.cells (Iss.mk 6 ((l.map De.cells).length:Nat) dnm)],rfl,?_⟩
     exact⟨Nat × List Iss,(fun x=>[(0, .p (des l)),(2, .p (i64 g)),(4, .ptr 0 0 0),(7, .sl 1 3 0 x.2.length),(8, .p (i64 (l.map De.cells).length)),(13, .p (i64 x.1))]),(fun x=>⟨2,[(1,isO x.2),(0,dcO ⟨3,dn,dnm,dpl,drs,dcs⟩)]⟩),(fun x=>x.1≤drs.length∧x.2++refsI l ⟨3,dn,dnm,dpl,drs,dcs⟩ (drs.take x.1) (drs.drop x.1)=preI l ⟨3,dn,dnm,dpl,drs,dcs⟩++refsI l ⟨3,dn,dnm,dpl,drs,dcs⟩ [] drs),(fun x=>drs.length - x.1),⟨(0,[Iss.mk 2 ((l.map De.cells).length:Nat) dnm,Iss.mk 6 ((l.map De.cells).length:Nat) dnm]),⟨Nat.zero_le _,by show [Iss.mk 2 ((l.map De.cells).length:Nat) dnm,Iss.mk 6 ((l.map De.cells).length:Nat) dnm]++_=_;rw [hpre,hT1,hp2,hc];rfl⟩,ent_of [] [(1,5)] [] rfl (sk) (sk) rfl⟩,key.get⟩
    ·have c2:¬ 4<dn:=c2
     have hc:cardI l ⟨3,dn,dnm,dpl,drs,dcs⟩=[]:=by rw [cardI,if_neg (show ¬ (dn<2∨4<dn) by omega)]
     exact⟨Nat × List Iss,(fun x=>[(0, .p (des l)),(2, .p (i64 g)),(4, .ptr 0 0 0),(7, .sl 1 3 0 x.2.length),(8, .p (i64 (l.map De.cells).length)),(13, .p (i64 x.1))]),(fun x=>⟨2,[(1,isO x.2),(0,dcO ⟨3,dn,dnm,dpl,drs,dcs⟩)]⟩),(fun x=>x.1≤drs.length∧x.2++refsI l ⟨3,dn,dnm,dpl,drs,dcs⟩ (drs.take x.1) (drs.drop x.1)=preI l ⟨3,dn,dnm,dpl,drs,dcs⟩++refsI l ⟨3,dn,dnm,dpl,drs,dcs⟩ [] drs),(fun x=>drs.length - x.1),⟨(0,[Iss.mk 2 ((l.map De.cells).length:Nat) dnm]),⟨Nat.zero_le _,by show [Iss.mk 2 ((l.map De.cells).length:Nat) dnm]++_=_;rw [hpre,hT1,hp2,hc];rfl⟩,ent_of [] [(1,3)] [] rfl (sk) (sk) rfl⟩,key.get⟩
   obtain⟨hp1,hp⟩:=hp
   refine And.intro (fun h=>absurd h hp1) (fun _=>?_)
   refine Or.elim hp (fun hp=>?_) (fun hp=>?_)
   ·obtain⟨hp2,hp3⟩:=hp
    refine hp3.eq rfl ?_
    refine⟨by show 0+1≤1;omega,[Iss.cells (Iss.mk 3 ((l.map De.cells).length:Nat) dpl)],rfl,?_⟩
    refine⟨by show 0+1≤1;decide,[Iss.cells (Iss.mk 2 ((l.map De.cells).length:Nat) dnm)],rfl,by show(1+1) * 32≤140737488355328;decide,[Iss.cells (Iss.mk 2 ((l.map De.cells).length:Nat) dnm),Iss.cells (Iss.mk 3 ((l.map De.cells).length:Nat) dpl)],rfl,?_⟩
    refine And.intro (fun _=>?_) (fun h=>absurd rfl h)
    refine brLt (fun c1=>?_) (fun c1=>?_)
    ·have c1:dn<2:=c1
     have hc:cardI l ⟨3,dn,dnm,dpl,drs,dcs⟩=[Iss.mk 6 ((l.map De.cells).length:Nat) dnm]:=by rw [cardI,if_pos (.inl c1),hm]
     refine⟨by show 0+1≤1;omega,[Iss.cells (Iss.mk 6 ((l.map De.cells).length:Nat) dnm)],rfl,?_⟩
     refine⟨by show 0+2≤2;decide,[Iss.cells (Iss.mk 2 ((l.map De.cells).length:Nat) dnm),Iss.cells (Iss.mk 3 ((l.map De.cells).length:Nat) dpl)],rfl,by show(2+1) * 32≤140737488355328;decide,[Iss.cells (Iss.mk 2 ((l.map De.cells).length:Nat) dnm),Iss.cells (Iss.mk 3 ((l.map De.cells).length:Nat) dpl),Iss.cells (Iss.mk 6 ((l.map De.cells).length:Nat) dnm)],rfl,?_⟩
     exact⟨Nat × List Iss,(fun x=>[(0, .p (des l)),(2, .p (i64 g)),(4, .ptr 0 0 0),(7, .sl 1 3 0 x.2.length),(8, .p (i64 (l.map De.cells).length)),(13, .p (i64 x.1))]),(fun x=>⟨2,[(1,isO x.2),(0,dcO ⟨3,dn,dnm,dpl,drs,dcs⟩)]⟩),(fun x=>x.1≤drs.length∧x.2++refsI l ⟨3,dn,dnm,dpl,drs,dcs⟩ (drs.take x.1) (drs.drop x.1)=preI l ⟨3,dn,dnm,dpl,drs,dcs⟩++refsI l ⟨3,dn,dnm,dpl,drs,dcs⟩ [] drs),(fun x=>drs.length - x.1),⟨(0,[Iss.mk 2 ((l.map De.cells).length:Nat) dnm,Iss.mk 3 ((l.map De.cells).length:Nat) dpl,Iss.mk 6 ((l.map De.cells).length:Nat) dnm]),⟨Nat.zero_le _,by show [Iss.mk 2 ((l.map De.cells).length:Nat) dnm,Iss.mk 3 ((l.map De.cells).length:Nat) dpl,Iss.mk 6 ((l.map De.cells).length:Nat) dnm]++_=_;rw [hpre,hT1,hp2,hc];rfl⟩,ent_of [] [(1,8)] [] rfl (sk) (sk) rfl⟩,key.get⟩
    have c1:¬ dn<2:=c1
    refine brLt (fun c2=>?_) (fun c2=>?_)
    ·have c2:4<dn:=c2
     have hc:cardI l ⟨3,dn,dnm,dpl,drs,dcs⟩=[Iss.mk 6 ((l.map De.cells).length:Nat) dnm]:=by rw [cardI,if_pos (.inr c2),hm]
     refine⟨by show 0+1≤1;omega,[Iss.cells (Iss.mk 6 ((l.map De.cells).length:Nat) dnm)],rfl,?_⟩
     refine⟨by show 0+2≤2;decide,[Iss.cells (Iss.mk 2 ((l.map De.cells).length:Nat) dnm),Iss.cells (Iss.mk 3 ((l.map De.cells).length:Nat) dpl)],rfl,by show(2+1) * 32≤140737488355328;decide,[Iss.cells (Iss.mk 2 ((l.map De.cells).length:Nat) dnm),Iss.cells (Iss.mk 3 ((l.map De.cells).length:Nat) dpl),Iss.cells (Iss.mk 6 ((l.map De.cells).length:Nat) dnm)],rfl,?_⟩
     exact⟨Nat × List Iss,(fun x=>[(0, .p (des l)),(2, .p (i64 g)),(4, .ptr 0 0 0),(7, .sl 1 3 0 x.2.length),(8, .p (i64 (l.map De.cells).length)),(13, .p (i64 x.1))]),(fun x=>⟨2,[(1,isO x.2),(0,dcO ⟨3,dn,dnm,dpl,drs,dcs⟩)]⟩),(fun x=>x.1≤drs.length∧x.2++refsI l ⟨3,dn,dnm,dpl,drs,dcs⟩ (drs.take x.1) (drs.drop x.1)=preI l ⟨3,dn,dnm,dpl,drs,dcs⟩++refsI l ⟨3,dn,dnm,dpl,drs,dcs⟩ [] drs),(fun x=>drs.length - x.1),⟨(0,[Iss.mk 2 ((l.map De.cells).length:Nat) dnm,Iss.mk 3 ((l.map De.cells).length:Nat) dpl,Iss.mk 6 ((l.map De.cells).length:Nat) dnm]),⟨Nat.zero_le _,by show [Iss.mk 2 ((l.map De.cells).length:Nat) dnm,Iss.mk 3 ((l.map De.cells).length:Nat) dpl,Iss.mk 6 ((l.map De.cells).length:Nat) dnm]++_=_;rw [hpre,hT1,hp2,hc];rfl⟩,ent_of [] [(1,8)] [] rfl (sk) (sk) rfl⟩,key.get⟩
    ·have c2:¬ 4<dn:=c2
     have hc:cardI l ⟨3,dn,dnm,dpl,drs,dcs⟩=[]:=by rw [cardI,if_neg (show ¬ (dn<2∨4<dn) by omega)]
     exact⟨Nat × List Iss,(fun x=>[(0, .p (des l)),(2, .p (i64 g)),(4, .ptr 0 0 0),(7, .sl 1 3 0 x.2.length),(8, .p (i64 (l.map De.cells).length)),(13, .p (i64 x.1))]),(fun x=>⟨2,[(1,isO x.2),(0,dcO ⟨3,dn,dnm,dpl,drs,dcs⟩)]⟩),(fun x=>x.1≤drs.length∧x.2++refsI l ⟨3,dn,dnm,dpl,drs,dcs⟩ (drs.take x.1) (drs.drop x.1)=preI l ⟨3,dn,dnm,dpl,drs,dcs⟩++refsI l ⟨3,dn,dnm,dpl,drs,dcs⟩ [] drs),(fun x=>drs.length - x.1),⟨(0,[Iss.mk 2 ((l.map De.cells).length:Nat) dnm,Iss.mk 3 ((l.map De.cells).length:Nat) dpl]),⟨Nat.zero_le _,by show [Iss.mk 2 ((l.map De.cells).length:Nat) dnm,Iss.mk 3 ((l.map De.cells).length:Nat) dpl]++_=_;rw [hpre,hT1,hp2,hc];rfl⟩,ent_of [] [(1,6)] [] rfl (sk) (sk) rfl⟩,key.get⟩
   obtain⟨y1,y2,y3,y4,y5,hp⟩:=hp
   refine Or.elim hp (fun hp=>?_) (fun hp=>?_)
   ·obtain⟨hp2,hp3,hp4⟩:=hp
    refine hp3.eq rfl ?_
    refine And.intro (fun _=>?_) (fun h=>absurd hp4 h)
    refine And.intro (fun _=>?_) (fun h=>absurd rfl h)
    refine brLt (fun c1=>?_) (fun c1=>?_)
    ·have c1:dn<2:=c1
     have hc:cardI l ⟨3,dn,dnm,dpl,drs,dcs⟩=[Iss.mk 6 ((l.map De.cells).length:Nat) dnm]:=by rw [cardI,if_pos (.inl c1),hm]
     refine⟨by show 0+1≤1;omega,[Iss.cells (Iss.mk 6 ((l.map De.cells).length:Nat) dnm)],rfl,?_⟩
     refine⟨by show 0+1≤1;decide,[Iss.cells (Iss.mk 2 ((l.map De.cells).length:Nat) dnm)],rfl,by show(1+1) * 32≤140737488355328;decide,[Iss.cells (Iss.mk 2 ((l.map De.cells).length:Nat) dnm),Iss.cells (Iss.mk 6 ((l.map De.cells).length:Nat) dnm)],rfl,?_⟩
     exact⟨Nat × List Iss,(fun x=>[(0, .p (des l)),(2, .p (i64 g)),(4, .ptr 0 0 0),(7, .sl 1 3 0 x.2.length),(8, .p (i64 (l.map De.cells).length)),(13, .p (i64 x.1))]),(fun x=>⟨2,[(1,isO x.2),(0,dcO ⟨3,dn,dnm,dpl,drs,dcs⟩)]⟩),(fun x=>x.1≤drs.length∧x.2++refsI l ⟨3,dn,dnm,dpl,drs,dcs⟩ (drs.take x.1) (drs.drop x.1)=preI l ⟨3,dn,dnm,dpl,drs,dcs⟩++refsI l ⟨3,dn,dnm,dpl,drs,dcs⟩ [] drs),(fun x=>drs.length - x.1),⟨(0,[Iss.mk 2 ((l.map De.cells).length:Nat) dnm,Iss.mk 6 ((l.map De.cells).length:Nat) dnm]),⟨Nat.zero_le _,by show [Iss.mk 2 ((l.map De.cells).length:Nat) dnm,Iss.mk 6 ((l.map De.cells).length:Nat) dnm]++_=_;rw [hpre,hT1,hp2,hc];rfl⟩,ent_of [] [(1,6)] [] rfl (sk) (sk) rfl⟩,key.get⟩
    have c1:¬ dn<2:=c1
    refine brLt (fun c2=>?_) (fun c2=>?_)
    ·have c2:4<dn:=c2
     have hc:cardI l ⟨3,dn,dnm,dpl,drs,dcs⟩=[Iss.mk 6 ((l.map De.cells).length:Nat) dnm]:=by rw [cardI,if_pos (.inr c2),hm]
     refine⟨by show 0+1≤1;omega,[Iss.cells (Iss.mk 6 ((l.map De.cells).length:Nat) dnm)],rfl,?_⟩
     refine⟨by show 0+1≤1;decide,[Iss.cells (Iss.mk 2 ((l.map De.cells).length:Nat) dnm)],rfl,by show(1+1) * 32≤140737488355328;decide,[Iss.cells (Iss.mk 2 ((l.map De.cells).length:Nat) dnm),Iss.cells (Iss.mk 6 ((l.map De.cells).length:Nat) dnm)],rfl,?_⟩
     exact⟨Nat × List Iss,(fun x=>[(0, .p (des l)),(2, .p (i64 g)),(4, .ptr 0 0 0),(7, .sl 1 3 0 x.2.length),(8, .p (i64 (l.map De.cells).length)),(13, .p (i64 x.1))]),(fun x=>⟨2,[(1,isO x.2),(0,dcO ⟨3,dn,dnm,dpl,drs,dcs⟩)]⟩),(fun x=>x.1≤drs.length∧x.2++refsI l ⟨3,dn,dnm,dpl,drs,dcs⟩ (drs.take x.1) (drs.drop x.1)=preI l ⟨3,dn,dnm,dpl,drs,dcs⟩++refsI l ⟨3,dn,dnm,dpl,drs,dcs⟩ [] drs),(fun x=>drs.length - x.1),⟨(0,[Iss.mk 2 ((l.map De.cells).length:Nat) dnm,Iss.mk 6 ((l.map De.cells).length:Nat) dnm]),⟨Nat.zero_le _,by show [Iss.mk 2 ((l.map De.cells).length:Nat) dnm,Iss.mk 6 ((l.map De.cells).length:Nat) dnm]++_=_;rw [hpre,hT1,hp2,hc];rfl⟩,ent_of [] [(1,6)] [] rfl (sk) (sk) rfl⟩,key.get⟩
    ·have c2:¬ 4<dn:=c2
     have hc:cardI l ⟨3,dn,dnm,dpl,drs,dcs⟩=[]:=by rw [cardI,if_neg (show ¬ (dn<2∨4<dn) by omega)]
     exact⟨Nat × List Iss,(fun x=>[(0, .p (des l)),(2, .p (i64 g)),(4, .ptr 0 0 0),(7, .sl 1 3 0 x.2.length),(8, .p (i64 (l.map De.cells).length)),(13, .p (i64 x.1))]),(fun x=>⟨2,[(1,isO x.2),(0,dcO ⟨3,dn,dnm,dpl,drs,dcs⟩)]⟩),(fun x=>x.1≤drs.length∧x.2++refsI l ⟨3,dn,dnm,dpl,drs,dcs⟩ (drs.take x.1) (drs.drop x.1)=preI l ⟨3,dn,dnm,dpl,drs,dcs⟩++refsI l ⟨3,dn,dnm,dpl,drs,dcs⟩ [] drs),(fun x=>drs.length - x.1),⟨(0,[Iss.mk 2 ((l.map De.cells).length:Nat) dnm]),⟨Nat.zero_le _,by show [Iss.mk 2 ((l.map De.cells).length:Nat) dnm]++_=_;rw [hpre,hT1,hp2,hc];rfl⟩,ent_of [] [(1,3)] [] rfl (sk) (sk) rfl⟩,key.get⟩
   ·obtain⟨hp2,hp3,hp4⟩:=hp
    refine hp3.eq rfl ?_
    refine And.intro (fun h=>absurd h hp4) (fun _=>?_)
    refine⟨by show 0+1≤1;omega,[Iss.cells (Iss.mk 4 ((l.map De.cells).length:Nat) dpl)],rfl,?_⟩
    refine⟨by show 0+1≤1;decide,[Iss.cells (Iss.mk 2 ((l.map De.cells).length:Nat) dnm)],rfl,by show(1+1) * 32≤140737488355328;decide,[Iss.cells (Iss.mk 2 ((l.map De.cells).length:Nat) dnm),Iss.cells (Iss.mk 4 ((l.map De.cells).length:Nat) dpl)],rfl,?_⟩
    refine And.intro (fun _=>?_) (fun h=>absurd rfl h)
    refine brLt (fun c1=>?_) (fun c1=>?_)
    ·have c1:dn<2:=c1
     have hc:cardI l ⟨3,dn,dnm,dpl,drs,dcs⟩=[Iss.mk 6 ((l.map De.cells).length:Nat) dnm]:=by rw [cardI,if_pos (.inl c1),hm]
     refine⟨by show 0+1≤1;omega,[Iss.cells (Iss.mk 6 ((l.map De.cells).length:Nat) dnm)],rfl,?_⟩
     refine⟨by show 0+2≤2;decide,[Iss.cells (Iss.mk 2 ((l.map De.cells).length:Nat) dnm),Iss.cells (Iss.mk 4 ((l.map De.cells).length:Nat) dpl)],rfl,by show(2+1) * 32≤140737488355328;decide,[Iss.cells (Iss.mk 2 ((l.map De.cells).length:Nat) dnm),Iss.cells (Iss.mk 4 ((l.map De.cells).length:Nat) dpl),Iss.cells (Iss.mk 6 ((l.map De.cells).length:Nat) dnm)],rfl,?_⟩
     exact⟨Nat × List Iss,(fun x=>[(0, .p (des l)),(2, .p (i64 g)),(4, .ptr 0 0 0),(7, .sl 1 3 0 x.2.length),(8, .p (i64 (l.map De.cells).length)),(13, .p (i64 x.1))]),(fun x=>⟨2,[(1,isO x.2),(0,dcO ⟨3,dn,dnm,dpl,drs,dcs⟩)]⟩),(fun x=>x.1≤drs.length∧x.2++refsI l ⟨3,dn,dnm,dpl,drs,dcs⟩ (drs.take x.1) (drs.drop x.1)=preI l ⟨3,dn,dnm,dpl,drs,dcs⟩++refsI l ⟨3,dn,dnm,dpl,drs,dcs⟩ [] drs),(fun x=>drs.length - x.1),⟨(0,[Iss.mk 2 ((l.map De.cells).length:Nat) dnm,Iss.mk 4 ((l.map De.cells).length:Nat) dpl,Iss.mk 6 ((l.map De.cells).length:Nat) dnm]),⟨Nat.zero_le _,by show [Iss.mk 2 ((l.map De.cells).length:Nat) dnm,Iss.mk 4 ((l.map De.cells).length:Nat) dpl,Iss.mk 6 ((l.map De.cells).length:Nat) dnm]++_=_;rw [hpre,hT1,hp2,hc];rfl⟩,ent_of [] [(1,8)] [] rfl (sk) (sk) rfl⟩,key.get⟩
    have c1:¬ dn<2:=c1
    refine brLt (fun c2=>?_) (fun c2=>?_)
    ·have c2:4<dn:=c2
     have hc:cardI l ⟨3,dn,dnm,dpl,drs,dcs⟩=[Iss.mk 6 ((l.map De.cells).length:Nat) dnm]:=by rw [cardI,if_pos (.inr c2),hm]
     refine⟨by show 0+1≤1;omega,[Iss.cells (Iss.mk 6 ((l.map De.cells).length:Nat) dnm)],rfl,?_⟩
     refine⟨by show 0+2≤2;decide,[Iss.cells (Iss.mk 2 ((l.map De.cells).length:Nat) dnm),Iss.cells (Iss.mk 4 ((l.map De.cells).length:Nat) dpl)],rfl,by show(2+1) * 32≤140737488355328;decide,[Iss.cells (Iss.mk 2 ((l.map De.cells).length:Nat) dnm),Iss.cells (Iss.mk 4 ((l.map De.cells).length:Nat) dpl),Iss.cells (Iss.mk 6 ((l.map De.cells).length:Nat) dnm)],rfl,?_⟩
     exact⟨Nat × List Iss,(fun x=>[(0, .p (des l)),(2, .p (i64 g)),(4, .ptr 0 0 0),(7, .sl 1 3 0 x.2.length),(8, .p (i64 (l.map De.cells).length)),(13, .p (i64 x.1))]),(fun x=>⟨2,[(1,isO x.2),(0,dcO ⟨3,dn,dnm,dpl,drs,dcs⟩)]⟩),(fun x=>x.1≤drs.length∧x.2++refsI l ⟨3,dn,dnm,dpl,drs,dcs⟩ (drs.take x.1) (drs.drop x.1)=preI l ⟨3,dn,dnm,dpl,drs,dcs⟩++refsI l ⟨3,dn,dnm,dpl,drs,dcs⟩ [] drs),(fun x=>drs.length - x.1),⟨(0,[Iss.mk 2 ((l.map De.cells).length:Nat) dnm,Iss.mk 4 ((l.map De.cells).length:Nat) dpl,Iss.mk 6 ((l.map De.cells).length:Nat) dnm]),⟨Nat.zero_le _,by show [Iss.mk 2 ((l.map De.cells).length:Nat) dnm,Iss.mk 4 ((l.map De.cells).length:Nat) dpl,Iss.mk 6 ((l.map De.cells).length:Nat) dnm]++_=_;rw [hpre,hT1,hp2,hc];rfl⟩,ent_of [] [(1,8)] [] rfl (sk) (sk) rfl⟩,key.get⟩
    ·have c2:¬ 4<dn:=c2
     have hc:cardI l ⟨3,dn,dnm,dpl,drs,dcs⟩=[]:=by rw [cardI,if_neg (show ¬ (dn<2∨4<dn) by omega)]
     exact⟨Nat × List Iss,(fun x=>[(0, .p (des l)),(2, .p (i64 g)),(4, .ptr 0 0 0),(7, .sl 1 3 0 x.2.length),(8, .p (i64 (l.map De.cells).length)),(13, .p (i64 x.1))]),(fun x=>⟨2,[(1,isO x.2),(0,dcO ⟨3,dn,dnm,dpl,drs,dcs⟩)]⟩),(fun x=>x.1≤drs.length∧x.2++refsI l ⟨3,dn,dnm,dpl,drs,dcs⟩ (drs.take x.1) (drs.drop x.1)=preI l ⟨3,dn,dnm,dpl,drs,dcs⟩++refsI l ⟨3,dn,dnm,dpl,drs,dcs⟩ [] drs),(fun x=>drs.length - x.1),⟨(0,[Iss.mk 2 ((l.map De.cells).length:Nat) dnm,Iss.mk 4 ((l.map De.cells).length:Nat) dpl]),⟨Nat.zero_le _,by show [Iss.mk 2 ((l.map De.cells).length:Nat) dnm,Iss.mk 4 ((l.map De.cells).length:Nat) dpl]++_=_;rw [hpre,hT1,hp2,hc];rfl⟩,ent_of [] [(1,6)] [] rfl (sk) (sk) rfl⟩,key.get⟩
 case k=>
  rintro⟨k,cur⟩ ⟨k1,k2⟩
  simp only [] at k1 k2
  have hcl:cur.length≤400:=by
   have e:=congrArg List.length k2
   rw [List.length_append,List.length_append] at e
   omega
  (first | refine brLt (fun m1=>?_) (fun m1=>?_) | refine brLe (fun m1=>?_) (fun m1=>?_) | refine brEq (fun m1=>?_) (fun m1=>?_))
  rotate_left
  ·have m1:¬ (k:Int)<((drs.map Rf.cells).length:Nat):=m1
   rw [List.length_map] at m1
   rw [List.drop_eq_nil_of_le (by omega),refsI,List.append_nil] at k2
   refine⟨Nat × List Iss,fun x=>[(0, .p (des l)),(2, .p (i64 g)),(4, .ptr 0 0 0),(7, .sl 1 3 0 x.2.length),(8, .p (i64 (l.map De.cells).length)),(17, .p (i64 x.1))],fun x=>⟨2,[(1,isO x.2),(0,dcO ⟨3,dn,dnm,dpl,drs,dcs⟩)]⟩,fun x=>x.1≤dcs.length∧x.2++casesI l ⟨3,dn,dnm,dpl,drs,dcs⟩ g (dcs.drop x.1)=cur++casesI l ⟨3,dn,dnm,dpl,drs,dcs⟩ g dcs,fun x=>dcs.length - x.1,?_,?_⟩
   ·exact⟨(0,cur),⟨Nat.zero_le _,rfl⟩,ent_of [] [] [] rfl (sk) (sk) rfl⟩
   rintro⟨j,cu⟩ ⟨j1,j2⟩
   simp only [] at j1 j2
   have htot:(cur++casesI l ⟨3,dn,dnm,dpl,drs,dcs⟩ g dcs).length≤1000:=by rw [List.length_append];omega
   (first | refine brLt (fun n1=>?_) (fun n1=>?_) | refine brLe (fun n1=>?_) (fun n1=>?_) | refine brEq (fun n1=>?_) (fun n1=>?_))
   rotate_left
   ·have n1:¬ (j:Int)<((dcs.map Cs.cells).length:Nat):=n1
    rw [List.length_map] at n1
    rw [List.drop_eq_nil_of_le (by omega),show casesI l ⟨3,dn,dnm,dpl,drs,dcs⟩ g []=[] from rfl,List.append_nil] at j2
    exact end1 (isl cu) rfl ⟨_,rfl,by show 0+cu.length≤(cu.map Iss.cells).length;simp,takeAll (by simp)⟩ (by rw [j2,k2,List.append_assoc])
   have n1:(j:Int)<((dcs.map Cs.cells).length:Nat):=n1
   rw [List.length_map] at n1
   have hj:j<dcs.length:=by omega
   have hcell:=scell hj
   have hx:=(hca _ (getD_memL cs0 hj)).ok
   rw [dropD cs0 hj,casesI_step,← List.append_assoc,← List.append_assoc] at j2
   rw [← j2,List.length_append,List.length_append] at htot
   generalize dcs.getD j cs0=x at hcell hx j2 htot
   obtain⟨⟨xo,xn,xr,xv,xf,xs,xa⟩,xw⟩:=x
   obtain⟨x1,x2,x3⟩:=hx
   simp only [] at x1 x2 x3 j2 htot
   have hr:=scrrow_c ⟨3,dn,dnm,dpl,drs,dcs⟩ xw g x2 x3
   refine vdraw_ot otO36 (by kernel_rfl) ?_
   refine⟨_,⟨by omega,(⟨.mk xo xn xr xv xf xs xa,xw⟩:Cs).cells,hcell,rfl⟩,?_⟩
   refine(rcond_h l ⟨3,dn,dnm,dpl,drs,dcs⟩ (by show drs.length≤100;omega) hl hok _ (.mk xo xn xr xv xf xs xa) cu (Nat.le_refl _) x1 (by omega)).holds.useT [] [(0,1)] rfl (sk) (sk) fun e0 H0 hq=>?_
   obtain⟨rfl,rfl⟩:=hq
   have hnl:(cu++condI l ⟨3,dn,dnm,dpl,drs,dcs⟩ (.mk xo xn xr xv xf xs xa)).length≤1000:=by omega
   generalize cu++condI l ⟨3,dn,dnm,dpl,drs,dcs⟩ (.mk xo xn xr xv xf xs xa)=nxt at j2 hnl ⊢
   refine⟨rfl,_,⟨3,(2,isO nxt)::[(0,dcO ⟨3,dn,dnm,dpl,drs,dcs⟩)]⟩,rfl,rfl,?_⟩
   refine vdraw_ot otO37 (by kernel_rfl) ?_
   refine⟨_,⟨by omega,(⟨.mk xo xn xr xv xf xs xa,xw⟩:Cs).cells,hcell,rfl⟩,?_⟩
   by_cases hrow:rowI ⟨3,dn,dnm,dpl,drs,dcs⟩ xw g=true
   ·rw [hrow] at hr j2
    rw [if_pos rfl,List.append_nil] at j2
    refine hr.eq rfl ?_
    refine⟨_,wrap_i64 (by omega) (by omega),?_⟩
    exact⟨(j+1,nxt),⟨by show j+1≤dcs.length;omega,j2⟩,ent_of [] [(1,2)] [] rfl (sk) (sk) rfl,by show dcs.length - (j+1)<dcs.length - j;omega⟩
   ·rw [Bool.not_eq_true] at hrow
    rw [hrow] at hr j2
    rw [if_neg (by decide),← hm] at j2
    refine hr.eq rfl ?_
    refine⟨by show 0+1≤1;omega,[Iss.cells (Iss.mk 9 ((l.map De.cells).length:Nat) [])],rfl,?_⟩
    refine⟨by show 0+(nxt.length)≤((nxt).map Iss.cells).length;simp,(nxt).map Iss.cells,takeAll (by simp),by show((nxt.length)+1) * 32≤140737488355328;omega,((nxt)++[Iss.mk 9 ((l.map De.cells).length:Nat) []]).map Iss.cells,by rw [List.map_append];rfl,?_⟩
    refine⟨_,wrap_i64 (by omega) (by omega),?_⟩
    exact⟨(j+1,nxt++[Iss.mk 9 ((l.map De.cells).length:Nat) []]),⟨by show j+1≤dcs.length;omega,j2⟩,ent_of [] [(1,4)] [] rfl ⟨rfl,rfl,⟨rfl,rfl⟩,congrArg (fun j:Nat=>AV.sl 4 3 0 j) (snoc_len _ _).symm,rfl,rfl,trivial⟩ (sk) rfl,by show dcs.length - (j+1)<dcs.length - j;omega⟩
  have m1:(k:Int)<((drs.map Rf.cells).length:Nat):=m1
  rw [List.length_map] at m1
  have hk:k<drs.length:=by omega
  have hcell:=rcell hk
  have hxn:=hrn _ (getD_memL rf0 hk)
  have hstep:refsI l ⟨3,dn,dnm,dpl,drs,dcs⟩ (drs.take k) (drs.drop k)=(if drs.getD k rf0∈drs.take k then [⟨2,((l.map De.cells).length:Nat),(drs.getD k rf0).name⟩] else [])++(noteI (refI l ⟨3,dn,dnm,dpl,drs,dcs⟩ (drs.getD k rf0)) ((l.map De.cells).length:Nat) (drs.getD k rf0).name++refsI l ⟨3,dn,dnm,dpl,drs,dcs⟩ (drs.take (k+1)) (drs.drop (k+1))):=by
   rw [dropD rf0 hk,refsI,hm,take_succ_getD rf0 hk]
  generalize drs.getD k rf0=x at hcell hxn hstep
  have hRf:=scref_c l ⟨3,dn,dnm,dpl,drs,dcs⟩ x hxn hl hok
  have hnn:=refI_nn l ⟨3,dn,dnm,dpl,drs,dcs⟩ x
  generalize refI l ⟨3,dn,dnm,dpl,drs,dcs⟩ x=kk at hRf hnn hstep
  refine⟨Nat × Bool,fun y=>[(0, .p (des l)),(2, .p (i64 g)),(4, .ptr 0 0 0),(7, .sl 1 3 0 cur.length),(8, .p (i64 (l.map De.cells).length)),(13, .p (i64 k)),(14, .p (.bool y.2)),(15, .p (i64 y.1))],fun _=>⟨2,[(1,isO cur),(0,dcO ⟨3,dn,dnm,dpl,drs,dcs⟩)]⟩,fun y=>y.1≤k∧y.2=decide (x∈drs.take y.1),fun y=>k - y.1,?_,?_⟩
  ·exact⟨(0,false),⟨Nat.zero_le _,by simp⟩,ent_of [] [] [] rfl (sk) (sk) rfl⟩
  rintro⟨j,b⟩ ⟨j1,j2⟩
  simp only [] at j1 j2
  cases b
  ·(first | refine brLt (fun n1=>?_) (fun n1=>?_) | refine brLe (fun n1=>?_) (fun n1=>?_) | refine brEq (fun n1=>?_) (fun n1=>?_))
   ·have n1:(j:Int)<(k:Nat):=n1
    have hj:j<drs.length:=by omega
    have hcj:=rcell hj
    have hnx:(x∈drs.take (j+1)) ↔ (x∈drs.take j∨x=drs.getD j rf0):=by rw [take_succ_getD rf0 hj,List.mem_append,List.mem_singleton]
    generalize drs.getD j rf0=y at hcj hnx
    refine vdraw_ot otO27 (by kernel_rfl) ?_
    refine⟨_,⟨by omega,y.cells,hcj,rfl⟩,?_⟩
    refine⟨_,⟨by omega,x.cells,hcell,rfl⟩,?_⟩
    refine⟨⟨by kernel_rfl,by kernel_rfl⟩,fun e1=>?_,fun e1=>?_⟩
    ·have e1:y=x:=rf_ext (by first | exact e1 | (injection e1))
     refine⟨_,wrap_i64 (by omega) (by omega),?_⟩
     exact⟨(j+1,true),⟨by show j+1≤k;omega,(decide_eq_true (hnx.2 (.inr e1.symm))).symm⟩,ent_of [] [] [] rfl (sk) (sk) rfl,by show k - (j+1)<k - j;omega⟩
    ·have e1:¬ y=x:=fun e=>e1 (by rw [e])
     have hno:¬ x∈drs.take j:=of_decide_eq_false j2.symm
     refine⟨_,wrap_i64 (by omega) (by omega),?_⟩
     exact⟨(j+1,false),⟨by show j+1≤k;omega,(decide_eq_false (fun h=>(hnx.1 h).elim hno fun e=>e1 e.symm)).symm⟩,ent_of [] [] [] rfl (sk) (sk) rfl,by show k - (j+1)<k - j;omega⟩
   ·have n1:¬ (j:Int)<(k:Nat):=n1
    have hjk:j=k:=by omega
    have hno:¬ x∈drs.take k:=by rw [hjk] at j2;exact of_decide_eq_false j2.symm
    rw [if_neg hno] at hstep
    clear hjk n1 j1 j2
    refine vdraw_ot otO30 (by kernel_rfl) ?_
    refine⟨_,⟨by omega,x.cells,hcell,rfl⟩,?_⟩
    refine hRf.eq rfl ?_
    refine brLt (fun z=>?_) (fun z=>?_)
    ·have z:0<kk:=z
     rw [noteI,if_neg (show ¬ kk=0 by omega)] at hstep
     refine⟨_,⟨by omega,x.cells,hcell,rfl⟩,?_⟩
     refine⟨by show 0+1≤1;omega,[Iss.cells (Iss.mk kk ((l.map De.cells).length:Nat) x.name)],rfl,?_⟩
     refine⟨by show 0+(cur.length)≤((cur).map Iss.cells).length;simp,(cur).map Iss.cells,takeAll (by simp),by show((cur.length)+1) * 32≤140737488355328;omega,((cur)++[Iss.mk kk ((l.map De.cells).length:Nat) x.name]).map Iss.cells,by rw [List.map_append];rfl,?_⟩
     refine⟨_,wrap_i64 (by omega) (by omega),?_⟩
     exact⟨(k+1,(cur)++[Iss.mk kk ((l.map De.cells).length:Nat) x.name]),⟨by show k+1≤drs.length;omega,by rw [← k2];rw [hstep,List.append_assoc] <;> rfl⟩,ent_of [] [(1,3)] [] rfl ⟨rfl,rfl,⟨rfl,rfl⟩,congrArg (fun j:Nat=>AV.sl 3 3 0 j) (snoc_len cur _).symm,rfl,rfl,trivial⟩ (sk) rfl,by show drs.length - (k+1)<drs.length - k;omega⟩
    ·have z:¬ 0<kk:=z
     rw [noteI,if_pos (show kk=0 by omega)] at hstep
     refine⟨_,wrap_i64 (by omega) (by omega),?_⟩
     exact⟨(k+1,cur),⟨by show k+1≤drs.length;omega,by rw [← k2];rw [hstep] <;> rfl⟩,ent_of [] [(1,1)] [] rfl ⟨rfl,rfl,⟨rfl,rfl⟩,rfl,rfl,rfl,trivial⟩ (sk) rfl,by show drs.length - (k+1)<drs.length - k;omega⟩
  ·(first | refine brLt (fun n1=>?_) (fun n1=>?_) | refine brLe (fun n1=>?_) (fun n1=>?_) | refine brEq (fun n1=>?_) (fun n1=>?_))
   ·have n1:(j:Int)<(k:Nat):=n1
    have hj:j<drs.length:=by omega
    have hnx:(x∈drs.take (j+1)) ↔ (x∈drs.take j∨x=drs.getD j rf0):=by rw [take_succ_getD rf0 hj,List.mem_append,List.mem_singleton]
    have hyes:x∈drs.take j:=of_decide_eq_true j2.symm
    refine vdraw_ot otO27 (by kernel_rfl) ?_
    refine⟨_,wrap_i64 (by omega) (by omega),?_⟩
    exact⟨(j+1,true),⟨by show j+1≤k;omega,(decide_eq_true (hnx.2 (.inl hyes))).symm⟩,ent_of [] [] [] rfl (sk) (sk) rfl,by show k - (j+1)<k - j;omega⟩
   ·have n1:¬ (j:Int)<(k:Nat):=n1
    have hjk:j=k:=by omega
    have hyes:x∈drs.take k:=by rw [hjk] at j2;exact of_decide_eq_true j2.symm
    rw [if_pos hyes] at hstep
    clear hjk n1 j1 j2
    refine⟨_,⟨by omega,x.cells,hcell,rfl⟩,?_⟩
    refine⟨by show 0+1≤1;omega,[Iss.cells (Iss.mk 2 ((l.map De.cells).length:Nat) x.name)],rfl,?_⟩
    refine⟨by show 0+(cur.length)≤((cur).map Iss.cells).length;simp,(cur).map Iss.cells,takeAll (by simp),by show((cur.length)+1) * 32≤140737488355328;omega,((cur)++[Iss.mk 2 ((l.map De.cells).length:Nat) x.name]).map Iss.cells,by rw [List.map_append];rfl,?_⟩
    refine vdraw_ot otO30 (by kernel_rfl) ?_
    refine⟨_,⟨by omega,x.cells,hcell,rfl⟩,?_⟩
    refine hRf.eq rfl ?_
    refine brLt (fun z=>?_) (fun z=>?_)
    ·have z:0<kk:=z
     rw [noteI,if_neg (show ¬ kk=0 by omega)] at hstep
     refine⟨_,⟨by omega,x.cells,hcell,rfl⟩,?_⟩
     refine⟨by show 0+1≤1;omega,[Iss.cells (Iss.mk kk ((l.map De.cells).length:Nat) x.name)],rfl,?_⟩
     refine⟨by show 0+(cur.length+1)≤((cur++[Iss.mk 2 ((l.map De.cells).length:Nat) x.name]).map Iss.cells).length;simp,(cur++[Iss.mk 2 ((l.map De.cells).length:Nat) x.name]).map Iss.cells,takeAll (by simp),by show((cur.length+1)+1) * 32≤140737488355328;omega,((cur++[Iss.mk 2 ((l.map De.cells).length:Nat) x.name])++[Iss.mk kk ((l.map De.cells).length:Nat) x.name]).map Iss.cells,by rw [List.map_append];rfl,?_⟩
     refine⟨_,wrap_i64 (by omega) (by omega),?_⟩
     exact⟨(k+1,(cur++[Iss.mk 2 ((l.map De.cells).length:Nat) x.name])++[Iss.mk kk ((l.map De.cells).length:Nat) x.name]),⟨by show k+1≤drs.length;omega,by rw [← k2];rw [hstep,List.append_assoc,List.append_assoc] <;> rfl⟩,ent_of [] [(1,5)] [] rfl ⟨rfl,rfl,⟨rfl,rfl⟩,congrArg (fun j:Nat=>AV.sl 5 3 0 j) ((snoc_len _ _).trans (congrArg (fun z:Nat=>z+1) (snoc_len cur _))).symm,rfl,rfl,trivial⟩ (sk) rfl,by show drs.length - (k+1)<drs.length - k;omega⟩
    ·have z:¬ 0<kk:=z
     rw [noteI,if_pos (show kk=0 by omega)] at hstep
     refine⟨_,wrap_i64 (by omega) (by omega),?_⟩
     exact⟨(k+1,cur++[Iss.mk 2 ((l.map De.cells).length:Nat) x.name]),⟨by show k+1≤drs.length;omega,by rw [← k2];rw [hstep,List.append_assoc] <;> rfl⟩,ent_of [] [(1,3)] [] rfl ⟨rfl,rfl,⟨rfl,rfl⟩,congrArg (fun j:Nat=>AV.sl 3 3 0 j) (snoc_len cur _).symm,rfl,rfl,trivial⟩ (sk) rfl,by show drs.length - (k+1)<drs.length - k;omega⟩
theorem rone_1 (l:List De) (dn:Int) (dnm dpl:List UInt8) (drs:List Rf) (dcs:List Cs) (g:Int):Pure cx 56 [des l,(De.mk 1 dn dnm dpl drs dcs).pv,i64 g] (·=.ret [isl (oneI l ⟨1,dn,dnm,dpl,drs,dcs⟩ g)]):=by
 have hm:(l.map De.cells).length=l.length:=List.length_map ..
 obtain⟨R,hR⟩:∃ R,R=oneI l ⟨1,dn,dnm,dpl,drs,dcs⟩ g:=⟨_,rfl⟩
 rw [← hR]
 rw [oneI,if_pos rfl] at hR
 try simp only [] at hR
 refine pure_of_vc Tryz.func56 rfl rfl rfl ?_
 refine And.intro (fun _=>?_) (fun h=>absurd rfl h)
 (first | refine brLt (fun h0=>?_) (fun h0=>?_) | refine brLe (fun h0=>?_) (fun h0=>?_) | refine brEq (fun h0=>?_) (fun h0=>?_))
 ·have h0:(0:Int)<((l.map De.cells).length:Nat):=h0
  rw [hm] at h0
  rw [if_pos (.inl (by omega))] at hR
  refine⟨by show 0+1≤1;omega,[Iss.cells (Iss.mk 1 ((l.map De.cells).length:Nat) [])],rfl,?_⟩
  refine⟨by show 1 * 32≤140737488355328;decide,?_⟩
  exact end1 (isl [Iss.mk 1 ((l.map De.cells).length:Nat) []]) rfl ⟨_,rfl,by show 0+1≤1;decide,rfl⟩ (by rw [hR,hm])
 have h0:¬ (0:Int)<((l.map De.cells).length:Nat):=h0
 rw [hm] at h0
 (first | refine brLt (fun h1=>?_) (fun h1=>?_) | refine brLe (fun h1=>?_) (fun h1=>?_) | refine brEq (fun h1=>?_) (fun h1=>?_))
 ·have h1:dn<1:=h1
  rw [if_pos (.inr (.inl h1))] at hR
  refine⟨by show 0+1≤1;omega,[Iss.cells (Iss.mk 1 ((l.map De.cells).length:Nat) [])],rfl,?_⟩
  refine⟨by show 1 * 32≤140737488355328;decide,?_⟩
  exact end1 (isl [Iss.mk 1 ((l.map De.cells).length:Nat) []]) rfl ⟨_,rfl,by show 0+1≤1;decide,rfl⟩ (by rw [hR,hm])
 have h1:¬ dn<1:=h1
 (first | refine brLt (fun h2=>?_) (fun h2=>?_) | refine brLe (fun h2=>?_) (fun h2=>?_) | refine brEq (fun h2=>?_) (fun h2=>?_))
 ·have h2:60<dn:=h2
  rw [if_pos (.inr (.inr h2))] at hR
  refine⟨by show 0+1≤1;omega,[Iss.cells (Iss.mk 1 ((l.map De.cells).length:Nat) [])],rfl,?_⟩
  refine⟨by show 1 * 32≤140737488355328;decide,?_⟩
  exact end1 (isl [Iss.mk 1 ((l.map De.cells).length:Nat) []]) rfl ⟨_,rfl,by show 0+1≤1;decide,rfl⟩ (by rw [hR,hm])
 ·have h2:¬ 60<dn:=h2
  rw [if_neg (by omega)] at hR
  exact end1 (isl []) rfl (.inr (.inr ⟨3,rfl⟩)) (by rw [hR])
structure DcZ (d:De):Prop where
 two:d.kind=2→d.refs=[]∧d.cases=[]
 four:d.kind=4→d.cases=[]
theorem declB_z {d:De} (h:declB d=true):DcZ d:=by
 simp only [declB,Bool.and_eq_true] at h
 have h4:=h.2
 unfold kindB at h4
 refine⟨fun k=>?_,fun k=>?_⟩
 ·rw [if_neg (by omega),if_pos k] at h4
  simp only [Bool.and_eq_true,decide_eq_true_eq] at h4
  exact⟨List.eq_nil_of_length_eq_zero h4.1.2,List.eq_nil_of_length_eq_zero h4.2⟩
 ·rw [if_neg (by omega),if_neg (by omega),if_neg (by omega),if_pos k] at h4
  simp only [Bool.and_eq_true,decide_eq_true_eq] at h4
  exact List.eq_nil_of_length_eq_zero h4.2
theorem one_eq {l:List De} {d:De} {g:Int} (hk:¬ d.kind=1) (_ho:OkD d) (hz:DcZ d):oneI l d g=preI l d++(refsI l d [] d.refs++casesI l d g d.cases):=by
 rw [oneI,preI,if_neg hk]
 by_cases k2:d.kind=2
 ·rw [if_pos k2,if_pos k2,(hz.two k2).1,(hz.two k2).2,refsI,sizeI]
  show _=_++([]++[])
  rw [List.append_nil,List.append_nil]
 rw [if_neg k2,if_neg k2]
 by_cases k3:d.kind=3
 ·rw [if_pos k3,if_pos k3,List.append_assoc,List.append_assoc]
 rw [if_neg k3,if_neg k3]
 by_cases k4:d.kind=4
 ·rw [if_pos k4,if_pos k4,hz.four k4,List.append_assoc]
  show _=_++(_++(_++[]))
  rw [List.append_nil]
 ·rw [if_neg k4,if_neg k4];rfl
theorem rone_c (l:List De) (d:De) (g:Int) (hd:DcV d) (hz:DcZ d) (hl:l.length≤1000) (hok:∀ d∈l,OkD d):Pure cx 56 [des l,d.pv,i64 g] (·=.ret [isl (oneI l d g)]):=by
 obtain⟨dk,dn,dnm,dpl,drs,dcs⟩:=d
 have hkind:=hd.ok.ok.kind
 have he:=fun hk=>one_eq (l:=l) (g:=g) (d:=⟨dk,dn,dnm,dpl,drs,dcs⟩) hk hd.ok.ok hz
 rcases hkind with h | h | h | h | h
 ·have h:dk=1:=h
  subst h
  exact rone_1 l dn dnm dpl drs dcs g
 ·have h:dk=2:=h
  subst h
  rw [he (show ¬ (2:Int)=1 by decide)]
  exact rone_2 l dn dnm dpl drs dcs g hd hl hok
 ·have h:dk=3:=h
  subst h
  rw [he (show ¬ (3:Int)=1 by decide)]
  exact rone_3 l dn dnm dpl drs dcs g hd hl hok
 ·have h:dk=4:=h
  subst h
  rw [he (show ¬ (4:Int)=1 by decide)]
  exact rone_4 l dn dnm dpl drs dcs g hd hl hok
 ·have h:dk=5:=h
  subst h
  rw [he (show ¬ (5:Int)=1 by decide)]
  exact rone_5 l dn dnm dpl drs dcs g hd hl hok
abbrev otS6:OT:=(.pure 0 (.pure 1 (.pure 2 (.pure 3 (.pure 4 (.pure 5 (.pure 6 (.pure 7 (.pure 8 .fin)))))))))
def is0:Iss:=⟨0,0,[]⟩
theorem iscell {l:List Iss} {k:Nat} (h:k<l.length):(l.map Iss.cells)[k]?=some (l.getD k is0).cells:=map_at is0 h
theorem is_ext {a b:Iss} (h:a.cells=b.cells):a=b:=by
 obtain⟨x,y,z⟩:=a
 obtain⟨x',y',z'⟩:=b
 injection h with h1 h
 injection h with h2 h
 injection h with h3 h
 injection h1 with _ h1
 injection h2 with _ h2
 injection h3 with h3
 subst h1 h2 h3
 rfl
theorem issame_c (a b:List Iss) (_ha:a.length≤1000000) (hb:b.length≤1000000):Pure cx 11 [isl a,isl b] (·=.ret [.bool (decide (a=b))]):=by
 have hma:(a.map Iss.cells).length=a.length:=List.length_map ..
 have hmb:(b.map Iss.cells).length=b.length:=List.length_map ..
 refine pure_of_vc Tryz.func11 rfl rfl rfl ?_
 refine And.intro (fun h1=>?_) (fun h1=>?_)
 rotate_left
 ·have h1:¬ ((a.map Iss.cells).length:Int)=((b.map Iss.cells).length:Nat):=h1
  rw [hma,hmb] at h1
  exact end1 _ rfl rfl (retB (decide_eq_false fun e=>h1 (by rw [e])).symm)
 have h1:((a.map Iss.cells).length:Int)=((b.map Iss.cells).length:Nat):=h1
 rw [hma,hmb] at h1
 refine⟨Nat,fun k=>[(0, .p (isl a)),(1, .p (isl b)),(5, .p (i64 k))],fun _=>⟨0,[]⟩,fun k=>k≤a.length∧a.take k=b.take k,fun k=>a.length - k,?_,?_⟩
 ·exact⟨0,⟨Nat.zero_le _,by simp⟩,ent_of [] [] [] rfl (sk) trivial rfl⟩
 rintro k ⟨k1,k2⟩
 (first | refine brLt (fun m1=>?_) (fun m1=>?_) | refine brLe (fun m1=>?_) (fun m1=>?_) | refine brEq (fun m1=>?_) (fun m1=>?_))
 rotate_left
 ·have m1:¬ (k:Int)<((a.map Iss.cells).length:Nat):=m1
  rw [hma] at m1
  rw [take_all (by omega),take_all (by omega)] at k2
  exact end1 _ rfl rfl (retB (decide_eq_true k2).symm)
 have m1:(k:Int)<((a.map Iss.cells).length:Nat):=m1
 rw [hma] at m1
 have hk:k<a.length:=by omega
 have hkb:k<b.length:=by omega
 have ca:=iscell hk
 have cb':=iscell hkb
 have hs:a.take (k+1)=b.take (k+1) ↔ a.getD k is0=b.getD k is0:=by
  rw [take_succ_getD is0 hk,take_succ_getD is0 hkb,k2]
  constructor
  ·intro h;have:=List.append_cancel_left h;injection this
  ·intro h;rw [h]
 have hne:¬ a.getD k is0=b.getD k is0→¬ a=b:=fun h e=>h (by rw [e])
 generalize a.getD k is0=x at ca hs hne
 generalize b.getD k is0=y at cb' hs hne
 refine vdraw_ot otS6 (by kernel_rfl) ?_
 refine⟨_,⟨by omega,x.cells,ca,rfl⟩,?_⟩
 refine⟨_,⟨by omega,y.cells,cb',rfl⟩,?_⟩
 refine⟨⟨by kernel_rfl,by kernel_rfl⟩,fun e1=>?_,fun e1=>?_⟩
 ·have e1:x=y:=is_ext (by first | exact e1 | (injection e1))
  refine⟨_,wrap_i64 (by omega) (by omega),?_⟩
  exact⟨k+1,⟨by omega,hs.2 e1⟩,ent_of [] [] [] rfl (sk) trivial rfl,by show a.length - (k+1)<a.length - k;omega⟩
 ·have e1:¬ x=y:=fun e=>e1 (by rw [e])
  exact end1 _ rfl rfl (retB (decide_eq_false (hne e1)).symm)
structure WI (W P:Nat):Prop where
 eq:W≤1024→W=P
 big:1024<W→1024<P
 hi:W≤4096
abbrev otB11:OT:=(.pure 0 (.pure 1 (.pure 2 (.pure 3 (.pure 4 (.pure 5 (.eff 6 [] (.pure 7 .fin) .nil)))))))
theorem rbig_c (ds:List De) (hlen:ds.length≤30) (hok:∀ d∈ds,OkD d) {g:Int} (hno:eachI g [] ds=[]):Pure cx 57 [srcV ds] (·=.ret [.bool (bigI ds)]):=by
 have hm:(ds.map De.cells).length=ds.length:=List.length_map ..
 refine pure_of_vc Tryz.func57 rfl rfl rfl ?_
 refine⟨Nat × Nat,fun x=>[(1, .ptr 0 0 0),(3, .p (i64 (nodesI [] (ds.take x.1):Nat))),(4, .p (i64 (gainsI (ds.take x.1):Nat))),(5, .p (i64 (x.2:Nat))),(6, .p (i64 x.1))],fun _=>⟨1,[(0,scO ds)]⟩,fun x=>x.1≤ds.length∧nodesI [] (ds.take x.1)≤6 * x.1∧WI x.2 (worldsI [] (ds.take x.1)),fun x=>ds.length - x.1,?_,?_⟩
 ·exact⟨(0,1),⟨Nat.zero_le _,Nat.zero_le _,⟨fun _=>rfl,fun h=>absurd h (by decide),by decide⟩⟩,ent_of [] [] [] rfl (sk) (sk) rfl⟩
 rintro⟨k,W⟩ ⟨k1,k2,k3⟩
 simp only [] at k1 k2 k3
 have hW4:=k3.hi
 (first | refine brLt (fun m1=>?_) (fun m1=>?_) | refine brLe (fun m1=>?_) (fun m1=>?_) | refine brEq (fun m1=>?_) (fun m1=>?_))
 rotate_left
 ·have m1:¬ (k:Int)<((ds.map De.cells).length:Nat):=m1
  rw [hm] at m1
  obtain⟨B,hB⟩:∃ B,B=bigI ds:=⟨_,rfl⟩
  rw [← hB]
  have et:ds.take k=ds:=take_all (by omega)
  have e1:=k3.eq
  have e2:=k3.big
  rw [et] at e1 e2
  rw [bigI] at hB
  (first | refine brLt (fun b0=>?_) (fun b0=>?_) | refine brLe (fun b0=>?_) (fun b0=>?_) | refine brEq (fun b0=>?_) (fun b0=>?_))
  ·have b0:((nodesI [] (ds.take k):Nat):Int)<1:=b0
   rw [et] at b0
   rw [decide_eq_true (show nodesI [] ds<1 by omega),Bool.true_or] at hB
   exact end1 _ rfl rfl (retB hB.symm)
  have b0:¬ ((nodesI [] (ds.take k):Nat):Int)<1:=b0
  rw [et] at b0
  rw [decide_eq_false (show ¬ nodesI [] ds<1 by omega),Bool.false_or] at hB
  (first | refine brLt (fun b1=>?_) (fun b1=>?_) | refine brLe (fun b1=>?_) (fun b1=>?_) | refine brEq (fun b1=>?_) (fun b1=>?_))
  ·have b1:(8:Int)<((nodesI [] (ds.take k):Nat):Int):=b1
   rw [et] at b1
   rw [decide_eq_true (show 8<nodesI [] ds by omega),Bool.true_or] at hB
   exact end1 _ rfl rfl (retB hB.symm)
  have b1:¬ (8:Int)<((nodesI [] (ds.take k):Nat):Int):=b1
  rw [et] at b1
  rw [decide_eq_false (show ¬ 8<nodesI [] ds by omega),Bool.false_or] at hB
  (first | refine brLt (fun b2=>?_) (fun b2=>?_) | refine brLe (fun b2=>?_) (fun b2=>?_) | refine brEq (fun b2=>?_) (fun b2=>?_))
  ·have b2:(4:Int)<((gainsI (ds.take k):Nat):Int):=b2
   rw [et] at b2
   rw [decide_eq_true (show 4<gainsI ds by omega),Bool.true_or] at hB
   exact end1 _ rfl rfl (retB hB.symm)
  have b2:¬ (4:Int)<((gainsI (ds.take k):Nat):Int):=b2
  rw [et] at b2
  rw [decide_eq_false (show ¬ 4<gainsI ds by omega),Bool.false_or] at hB
  (first | refine brLt (fun b3=>?_) (fun b3=>?_) | refine brLe (fun b3=>?_) (fun b3=>?_) | refine brEq (fun b3=>?_) (fun b3=>?_))
  ·have b3:(1024:Int)<((W:Nat):Int):=b3
   have:=e2 (by omega)
   rw [decide_eq_true this] at hB
   exact end1 _ rfl rfl (retB hB.symm)
  ·have b3:¬ (1024:Int)<((W:Nat):Int):=b3
   have:=e1 (by omega)
   rw [decide_eq_false (show ¬ 1024<worldsI [] ds by omega)] at hB
   exact end1 _ rfl rfl (retB hB.symm)
 have m1:(k:Int)<((ds.map De.cells).length:Nat):=m1
 rw [hm] at m1
 have hk:k<ds.length:=by omega
 have hcell:=decell hk
 have h1:=eachI_at ds [] hno k hk
 rw [List.nil_append] at h1
 have hcard:=fun h=>oneI_card (d:=ds.getD k de0) h1 h
 obtain⟨sN,sW,sG⟩:=count_step hk
 have hgl:gainsI (ds.take k)≤30:=by rw [gainsI];have:=List.length_filter_le (fun d:De=>decide (d.kind=5)) (ds.take k);rw [List.length_take] at this;omega
 have hspos:=fun h3 hp=>size_pos hno hk h3 hp
 have hSz:=fun (p:List UInt8) (hp:p ≠ [])=>rsize_c (ds.take k) hp (by rw [List.length_take];omega) fun d hd=>hok d (List.mem_of_mem_take hd)
 generalize ds.getD k de0=d at hcell hcard sN sW sG hspos
 obtain⟨dk,dn,dnm,dpl,drs,dcs⟩:=d
 simp only [memI] at sN sW sG hcard hspos
 refine⟨_,⟨by omega,(De.mk dk dn dnm dpl drs dcs).cells,hcell,rfl⟩,?_⟩
 (first | refine brLt (fun q3=>?_) (fun q3=>?_) | refine brLe (fun q3=>?_) (fun q3=>?_) | refine brEq (fun q3=>?_) (fun q3=>?_))
 ·have q3:dk=3:=q3
  rw [if_pos q3] at sN sW
  rw [if_neg (by omega)] at sG
  have hG:gainsI (ds.take (k+1))=gainsI (ds.take k):=sG
  refine And.intro (fun hp=>?_) (fun hp=>?_)
  ·have hp:dpl=[]:=hp
   rw [if_pos hp] at sN sW
   have hN:=sN
   have hq:1≤1→2≤dn∧dn≤4:=fun _=>hcard (.inl q3)
   refine⟨((nodesI [] (ds.take k)+1:Nat):Int),by rw [Int.natCast_add];exact wrap_i64 (by omega) (by omega),?_⟩
   refine⟨Nat × Nat,fun y=>[(1, .ptr 0 0 0),(3, .p (i64 (nodesI [] (ds.take k)+1:Nat))),(4, .p (i64 (gainsI (ds.take k):Nat))),(5, .p (i64 (y.2:Nat))),(6, .p (i64 k)),(7, .ptr 1 0 0),(8, .p (i64 (1:Nat))),(9, .p (i64 y.1))],fun _=>⟨2,[(1,dcO ⟨dk,dn,dnm,dpl,drs,dcs⟩),(0,scO ds)]⟩,fun y=>y.1≤1∧WI y.2 (worldsI [] (ds.take k) * dn.toNat ^ y.1),fun y=>1 - y.1,?_,?_⟩
   ·exact⟨(0,W),⟨Nat.zero_le _,by show WI W (_ * _ ^ 0);rw [Nat.pow_zero,Nat.mul_one];exact k3⟩,ent_of [] [] [] rfl (sk) (sk) rfl⟩
   rintro⟨j,V⟩ ⟨j1,j2⟩
   simp only [] at j1 j2
   have hV4:=j2.hi
   (first | refine brLt (fun n1=>?_) (fun n1=>?_) | refine brLe (fun n1=>?_) (fun n1=>?_) | refine brEq (fun n1=>?_) (fun n1=>?_))
   rotate_left
   ·have n1:¬ (j:Int)<(1:Nat):=n1
    have hjm:j=1:=by omega
    have hV:WI V (worldsI [] (ds.take (k+1))):=by rw [sW,← hjm];exact j2
    refine⟨_,wrap_i64 (by omega) (by omega),?_⟩
    exact⟨(k+1,V),⟨by show k+1≤ds.length;omega,by show nodesI [] (ds.take (k+1))≤6 * (k+1);omega,hV⟩,ent_of [] [] [] rfl ⟨⟨rfl,rfl⟩,congrArg (fun z:Nat=>i64 z) hN,congrArg (fun z:Nat=>i64 z) hG,rfl,rfl,trivial⟩ (sk) rfl,by show ds.length - (k+1)<ds.length - k;omega⟩
   have n1:(j:Int)<(1:Nat):=n1
   have hd:=hq (by omega)
   (first | refine brLt (fun n2=>?_) (fun n2=>?_) | refine brLe (fun n2=>?_) (fun n2=>?_) | refine brEq (fun n2=>?_) (fun n2=>?_))
   ·have n2:((V:Nat):Int)≤1024:=n2
    have hVe:=j2.eq (by omega)
    have hmul:((V:Nat):Int) * dn=((V * dn.toNat:Nat):Int):=by rw [Int.natCast_mul,show((dn.toNat:Nat):Int)=dn by omega]
    have hle:V * dn.toNat≤1024 * 4:=Nat.mul_le_mul (by omega) (by omega)
    refine⟨((V * dn.toNat:Nat):Int),by rw [← hmul];exact wrap_i64 (by omega) (by omega),?_⟩
    refine⟨_,wrap_i64 (by omega) (by omega),?_⟩
    exact⟨(j+1,V * dn.toNat),⟨by show j+1≤1;omega,by show WI (V * dn.toNat) (_ * dn.toNat ^ (j+1));rw [Nat.pow_succ,← Nat.mul_assoc,← hVe];exact⟨fun _=>rfl,fun h=>h,hle⟩⟩,ent_of [] [] [] rfl (sk) (sk) rfl,by show 1 - (j+1)<1 - j;omega⟩
   ·have n2:¬ ((V:Nat):Int)≤1024:=n2
    have hVb:=j2.big (by omega)
    have hV:WI V (worldsI [] (ds.take (k+1))):=by
     refine⟨fun h=>by omega,fun _=>?_,hV4⟩
     rw [sW]
     exact Nat.lt_of_lt_of_le hVb (Nat.mul_le_mul_left _ (Nat.pow_le_pow_right (by omega) j1))
    refine⟨_,wrap_i64 (by omega) (by omega),?_⟩
    exact⟨(k+1,V),⟨by show k+1≤ds.length;omega,by show nodesI [] (ds.take (k+1))≤6 * (k+1);omega,hV⟩,ent_of [] [] [] rfl ⟨⟨rfl,rfl⟩,congrArg (fun z:Nat=>i64 z) hN,congrArg (fun z:Nat=>i64 z) hG,rfl,rfl,trivial⟩ (sk) rfl,by show ds.length - (k+1)<ds.length - k;omega⟩
  ·have hp:¬ dpl=[]:=hp
   rw [if_neg hp] at sN sW
   have hs:=hspos q3 hp
   have hS:=hSz dpl hp
   obtain⟨m,hme⟩:∃ m:Nat,sizeV (ds.take k) dpl=(m:Nat):=⟨(sizeV (ds.take k) dpl).toNat,by omega⟩
   rw [hme] at hS
   rw [hme,Int.toNat_natCast] at sN sW
   have hN:=sN
   have hq:1≤m→2≤dn∧dn≤4:=fun _=>hcard (.inl q3)
   have hm6:m≤6:=by omega
   have ea:[des (ds.take k),PV.str dpl]=[PV.lsts 6 ((ds.map De.cells).take ((k:Nat):Int).toNat), .str dpl]:=by show [PV.lsts 6 ((ds.take k).map De.cells),_]=_;rw [List.map_take];rfl
   rw [ea] at hS
   refine vdraw_ot otB11 (by kernel_rfl) ?_
   refine⟨by show(0:Int)≤(k:Nat)∧((k:Nat):Int)≤((ds.map De.cells).length:Nat);rw [hm];omega,?_⟩
   refine hS.eq rfl ?_
   refine⟨((nodesI [] (ds.take k)+m:Nat):Int),by rw [Int.natCast_add];exact wrap_i64 (by omega) (by omega),?_⟩
   refine⟨Nat × Nat,fun y=>[(1, .ptr 0 0 0),(3, .p (i64 (nodesI [] (ds.take k)+m:Nat))),(4, .p (i64 (gainsI (ds.take k):Nat))),(5, .p (i64 (y.2:Nat))),(6, .p (i64 k)),(7, .ptr 1 0 0),(8, .p (i64 (m:Nat))),(9, .p (i64 y.1))],fun _=>⟨2,[(1,dcO ⟨dk,dn,dnm,dpl,drs,dcs⟩),(0,scO ds)]⟩,fun y=>y.1≤m∧WI y.2 (worldsI [] (ds.take k) * dn.toNat ^ y.1),fun y=>m - y.1,?_,?_⟩
   ·exact⟨(0,W),⟨Nat.zero_le _,by show WI W (_ * _ ^ 0);rw [Nat.pow_zero,Nat.mul_one];exact k3⟩,ent_of [] [] [] rfl (sk) (sk) rfl⟩
   rintro⟨j,V⟩ ⟨j1,j2⟩
   simp only [] at j1 j2
   have hV4:=j2.hi
   (first | refine brLt (fun n1=>?_) (fun n1=>?_) | refine brLe (fun n1=>?_) (fun n1=>?_) | refine brEq (fun n1=>?_) (fun n1=>?_))
   rotate_left
   ·have n1:¬ (j:Int)<(m:Nat):=n1
    have hjm:j=m:=by omega
    have hV:WI V (worldsI [] (ds.take (k+1))):=by rw [sW,← hjm];exact j2
    refine⟨_,wrap_i64 (by omega) (by omega),?_⟩
    exact⟨(k+1,V),⟨by show k+1≤ds.length;omega,by show nodesI [] (ds.take (k+1))≤6 * (k+1);omega,hV⟩,ent_of [] [] [] rfl ⟨⟨rfl,rfl⟩,congrArg (fun z:Nat=>i64 z) hN,congrArg (fun z:Nat=>i64 z) hG,rfl,rfl,trivial⟩ (sk) rfl,by show ds.length - (k+1)<ds.length - k;omega⟩
   have n1:(j:Int)<(m:Nat):=n1
   have hd:=hq (by omega)
   (first | refine brLt (fun n2=>?_) (fun n2=>?_) | refine brLe (fun n2=>?_) (fun n2=>?_) | refine brEq (fun n2=>?_) (fun n2=>?_))
   ·have n2:((V:Nat):Int)≤1024:=n2
    have hVe:=j2.eq (by omega)
    have hmul:((V:Nat):Int) * dn=((V * dn.toNat:Nat):Int):=by rw [Int.natCast_mul,show((dn.toNat:Nat):Int)=dn by omega]
    have hle:V * dn.toNat≤1024 * 4:=Nat.mul_le_mul (by omega) (by omega)
    refine⟨((V * dn.toNat:Nat):Int),by rw [← hmul];exact wrap_i64 (by omega) (by omega),?_⟩
    refine⟨_,wrap_i64 (by omega) (by omega),?_⟩
    exact⟨(j+1,V * dn.toNat),⟨by show j+1≤m;omega,by show WI (V * dn.toNat) (_ * dn.toNat ^ (j+1));rw [Nat.pow_succ,← Nat.mul_assoc,← hVe];exact⟨fun _=>rfl,fun h=>h,hle⟩⟩,ent_of [] [] [] rfl (sk) (sk) rfl,by show m - (j+1)<m - j;omega⟩
   ·have n2:¬ ((V:Nat):Int)≤1024:=n2
    have hVb:=j2.big (by omega)
    have hV:WI V (worldsI [] (ds.take (k+1))):=by
     refine⟨fun h=>by omega,fun _=>?_,hV4⟩
     rw [sW]
     exact Nat.lt_of_lt_of_le hVb (Nat.mul_le_mul_left _ (Nat.pow_le_pow_right (by omega) j1))
    refine⟨_,wrap_i64 (by omega) (by omega),?_⟩
    exact⟨(k+1,V),⟨by show k+1≤ds.length;omega,by show nodesI [] (ds.take (k+1))≤6 * (k+1);omega,hV⟩,ent_of [] [] [] rfl ⟨⟨rfl,rfl⟩,congrArg (fun z:Nat=>i64 z) hN,congrArg (fun z:Nat=>i64 z) hG,rfl,rfl,trivial⟩ (sk) rfl,by show ds.length - (k+1)<ds.length - k;omega⟩
 have q3:¬ dk=3:=q3
 rw [if_neg q3] at sN sW
 (first | refine brLt (fun q4=>?_) (fun q4=>?_) | refine brLe (fun q4=>?_) (fun q4=>?_) | refine brEq (fun q4=>?_) (fun q4=>?_))
 ·have q4:dk=4:=q4
  rw [if_pos q4] at sN sW
  rw [if_neg (by omega)] at sG
  have hG:gainsI (ds.take (k+1))=gainsI (ds.take k):=sG
  have hN:=sN
  have hq:1≤1→2≤dn∧dn≤4:=fun _=>hcard (.inr q4)
  refine⟨((nodesI [] (ds.take k)+1:Nat):Int),by rw [Int.natCast_add];exact wrap_i64 (by omega) (by omega),?_⟩
  refine⟨Nat × Nat,fun y=>[(1, .ptr 0 0 0),(3, .p (i64 (nodesI [] (ds.take k)+1:Nat))),(4, .p (i64 (gainsI (ds.take k):Nat))),(5, .p (i64 (y.2:Nat))),(6, .p (i64 k)),(7, .ptr 1 0 0),(8, .p (i64 (1:Nat))),(9, .p (i64 y.1))],fun _=>⟨2,[(1,dcO ⟨dk,dn,dnm,dpl,drs,dcs⟩),(0,scO ds)]⟩,fun y=>y.1≤1∧WI y.2 (worldsI [] (ds.take k) * dn.toNat ^ y.1),fun y=>1 - y.1,?_,?_⟩
  ·exact⟨(0,W),⟨Nat.zero_le _,by show WI W (_ * _ ^ 0);rw [Nat.pow_zero,Nat.mul_one];exact k3⟩,ent_of [] [] [] rfl (sk) (sk) rfl⟩
  rintro⟨j,V⟩ ⟨j1,j2⟩
  simp only [] at j1 j2
  have hV4:=j2.hi
  (first | refine brLt (fun n1=>?_) (fun n1=>?_) | refine brLe (fun n1=>?_) (fun n1=>?_) | refine brEq (fun n1=>?_) (fun n1=>?_))
  rotate_left
  ·have n1:¬ (j:Int)<(1:Nat):=n1
   have hjm:j=1:=by omega
   have hV:WI V (worldsI [] (ds.take (k+1))):=by rw [sW,← hjm];exact j2
   refine⟨_,wrap_i64 (by omega) (by omega),?_⟩
   exact⟨(k+1,V),⟨by show k+1≤ds.length;omega,by show nodesI [] (ds.take (k+1))≤6 * (k+1);omega,hV⟩,ent_of [] [] [] rfl ⟨⟨rfl,rfl⟩,congrArg (fun z:Nat=>i64 z) hN,congrArg (fun z:Nat=>i64 z) hG,rfl,rfl,trivial⟩ (sk) rfl,by show ds.length - (k+1)<ds.length - k;omega⟩
  have n1:(j:Int)<(1:Nat):=n1
  have hd:=hq (by omega)
  (first | refine brLt (fun n2=>?_) (fun n2=>?_) | refine brLe (fun n2=>?_) (fun n2=>?_) | refine brEq (fun n2=>?_) (fun n2=>?_))
  ·have n2:((V:Nat):Int)≤1024:=n2
   have hVe:=j2.eq (by omega)
   have hmul:((V:Nat):Int) * dn=((V * dn.toNat:Nat):Int):=by rw [Int.natCast_mul,show((dn.toNat:Nat):Int)=dn by omega]
   have hle:V * dn.toNat≤1024 * 4:=Nat.mul_le_mul (by omega) (by omega)
   refine⟨((V * dn.toNat:Nat):Int),by rw [← hmul];exact wrap_i64 (by omega) (by omega),?_⟩
   refine⟨_,wrap_i64 (by omega) (by omega),?_⟩
   exact⟨(j+1,V * dn.toNat),⟨by show j+1≤1;omega,by show WI (V * dn.toNat) (_ * dn.toNat ^ (j+1));rw [Nat.pow_succ,← Nat.mul_assoc,← hVe];exact⟨fun _=>rfl,fun h=>h,hle⟩⟩,ent_of [] [] [] rfl (sk) (sk) rfl,by show 1 - (j+1)<1 - j;omega⟩
  ·have n2:¬ ((V:Nat):Int)≤1024:=n2
   have hVb:=j2.big (by omega)
   have hV:WI V (worldsI [] (ds.take (k+1))):=by
    refine⟨fun h=>by omega,fun _=>?_,hV4⟩
    rw [sW]
    exact Nat.lt_of_lt_of_le hVb (Nat.mul_le_mul_left _ (Nat.pow_le_pow_right (by omega) j1))
   refine⟨_,wrap_i64 (by omega) (by omega),?_⟩
   exact⟨(k+1,V),⟨by show k+1≤ds.length;omega,by show nodesI [] (ds.take (k+1))≤6 * (k+1);omega,hV⟩,ent_of [] [] [] rfl ⟨⟨rfl,rfl⟩,congrArg (fun z:Nat=>i64 z) hN,congrArg (fun z:Nat=>i64 z) hG,rfl,rfl,trivial⟩ (sk) rfl,by show ds.length - (k+1)<ds.length - k;omega⟩
 have q4:¬ dk=4:=q4
 rw [if_neg q4] at sN sW
 have hN:=sN
 have hq:1≤0→2≤dn∧dn≤4:=fun h=>absurd h (by decide)
 (first | refine brLt (fun q5=>?_) (fun q5=>?_) | refine brLe (fun q5=>?_) (fun q5=>?_) | refine brEq (fun q5=>?_) (fun q5=>?_))
 ·have q5:dk=5:=q5
  rw [if_pos q5] at sG
  have hG:=sG
  refine⟨((gainsI (ds.take k)+1:Nat):Int),by rw [Int.natCast_add];exact wrap_i64 (by omega) (by omega),?_⟩
  refine⟨((nodesI [] (ds.take k)+0:Nat):Int),by rw [Int.natCast_add];exact wrap_i64 (by omega) (by omega),?_⟩
  refine⟨Nat × Nat,fun y=>[(1, .ptr 0 0 0),(3, .p (i64 (nodesI [] (ds.take k)+0:Nat))),(4, .p (i64 (gainsI (ds.take k)+1:Nat))),(5, .p (i64 (y.2:Nat))),(6, .p (i64 k)),(7, .ptr 1 0 0),(8, .p (i64 (0:Nat))),(9, .p (i64 y.1))],fun _=>⟨2,[(1,dcO ⟨dk,dn,dnm,dpl,drs,dcs⟩),(0,scO ds)]⟩,fun y=>y.1≤0∧WI y.2 (worldsI [] (ds.take k) * dn.toNat ^ y.1),fun y=>0 - y.1,?_,?_⟩
  ·exact⟨(0,W),⟨Nat.zero_le _,by show WI W (_ * _ ^ 0);rw [Nat.pow_zero,Nat.mul_one];exact k3⟩,ent_of [] [] [] rfl (sk) (sk) rfl⟩
  rintro⟨j,V⟩ ⟨j1,j2⟩
  simp only [] at j1 j2
  have hV4:=j2.hi
  (first | refine brLt (fun n1=>?_) (fun n1=>?_) | refine brLe (fun n1=>?_) (fun n1=>?_) | refine brEq (fun n1=>?_) (fun n1=>?_))
  rotate_left
  ·have n1:¬ (j:Int)<(0:Nat):=n1
   have hjm:j=0:=by omega
   have hV:WI V (worldsI [] (ds.take (k+1))):=by rw [sW,← hjm];exact j2
   refine⟨_,wrap_i64 (by omega) (by omega),?_⟩
   exact⟨(k+1,V),⟨by show k+1≤ds.length;omega,by show nodesI [] (ds.take (k+1))≤6 * (k+1);omega,hV⟩,ent_of [] [] [] rfl ⟨⟨rfl,rfl⟩,congrArg (fun z:Nat=>i64 z) hN,congrArg (fun z:Nat=>i64 z) hG,rfl,rfl,trivial⟩ (sk) rfl,by show ds.length - (k+1)<ds.length - k;omega⟩
  have n1:(j:Int)<(0:Nat):=n1
  have hd:=hq (by omega)
  (first | refine brLt (fun n2=>?_) (fun n2=>?_) | refine brLe (fun n2=>?_) (fun n2=>?_) | refine brEq (fun n2=>?_) (fun n2=>?_))
  ·have n2:((V:Nat):Int)≤1024:=n2
   have hVe:=j2.eq (by omega)
   have hmul:((V:Nat):Int) * dn=((V * dn.toNat:Nat):Int):=by rw [Int.natCast_mul,show((dn.toNat:Nat):Int)=dn by omega]
   have hle:V * dn.toNat≤1024 * 4:=Nat.mul_le_mul (by omega) (by omega)
   refine⟨((V * dn.toNat:Nat):Int),by rw [← hmul];exact wrap_i64 (by omega) (by omega),?_⟩
   refine⟨_,wrap_i64 (by omega) (by omega),?_⟩
   exact⟨(j+1,V * dn.toNat),⟨by show j+1≤0;omega,by show WI (V * dn.toNat) (_ * dn.toNat ^ (j+1));rw [Nat.pow_succ,← Nat.mul_assoc,← hVe];exact⟨fun _=>rfl,fun h=>h,hle⟩⟩,ent_of [] [] [] rfl (sk) (sk) rfl,by show 0 - (j+1)<0 - j;omega⟩
  ·have n2:¬ ((V:Nat):Int)≤1024:=n2
   have hVb:=j2.big (by omega)
   have hV:WI V (worldsI [] (ds.take (k+1))):=by
    refine⟨fun h=>by omega,fun _=>?_,hV4⟩
    rw [sW]
    exact Nat.lt_of_lt_of_le hVb (Nat.mul_le_mul_left _ (Nat.pow_le_pow_right (by omega) j1))
   refine⟨_,wrap_i64 (by omega) (by omega),?_⟩
   exact⟨(k+1,V),⟨by show k+1≤ds.length;omega,by show nodesI [] (ds.take (k+1))≤6 * (k+1);omega,hV⟩,ent_of [] [] [] rfl ⟨⟨rfl,rfl⟩,congrArg (fun z:Nat=>i64 z) hN,congrArg (fun z:Nat=>i64 z) hG,rfl,rfl,trivial⟩ (sk) rfl,by show ds.length - (k+1)<ds.length - k;omega⟩
 ·have q5:¬ dk=5:=q5
  rw [if_neg q5] at sG
  have hG:gainsI (ds.take (k+1))=gainsI (ds.take k):=sG
  refine⟨((nodesI [] (ds.take k)+0:Nat):Int),by rw [Int.natCast_add];exact wrap_i64 (by omega) (by omega),?_⟩
  refine⟨Nat × Nat,fun y=>[(1, .ptr 0 0 0),(3, .p (i64 (nodesI [] (ds.take k)+0:Nat))),(4, .p (i64 (gainsI (ds.take k):Nat))),(5, .p (i64 (y.2:Nat))),(6, .p (i64 k)),(7, .ptr 1 0 0),(8, .p (i64 (0:Nat))),(9, .p (i64 y.1))],fun _=>⟨2,[(1,dcO ⟨dk,dn,dnm,dpl,drs,dcs⟩),(0,scO ds)]⟩,fun y=>y.1≤0∧WI y.2 (worldsI [] (ds.take k) * dn.toNat ^ y.1),fun y=>0 - y.1,?_,?_⟩
  ·exact⟨(0,W),⟨Nat.zero_le _,by show WI W (_ * _ ^ 0);rw [Nat.pow_zero,Nat.mul_one];exact k3⟩,ent_of [] [] [] rfl (sk) (sk) rfl⟩
  rintro⟨j,V⟩ ⟨j1,j2⟩
  simp only [] at j1 j2
  have hV4:=j2.hi
  (first | refine brLt (fun n1=>?_) (fun n1=>?_) | refine brLe (fun n1=>?_) (fun n1=>?_) | refine brEq (fun n1=>?_) (fun n1=>?_))
  rotate_left
  ·have n1:¬ (j:Int)<(0:Nat):=n1
   have hjm:j=0:=by omega
   have hV:WI V (worldsI [] (ds.take (k+1))):=by rw [sW,← hjm];exact j2
   refine⟨_,wrap_i64 (by omega) (by omega),?_⟩
   exact⟨(k+1,V),⟨by show k+1≤ds.length;omega,by show nodesI [] (ds.take (k+1))≤6 * (k+1);omega,hV⟩,ent_of [] [] [] rfl ⟨⟨rfl,rfl⟩,congrArg (fun z:Nat=>i64 z) hN,congrArg (fun z:Nat=>i64 z) hG,rfl,rfl,trivial⟩ (sk) rfl,by show ds.length - (k+1)<ds.length - k;omega⟩
  have n1:(j:Int)<(0:Nat):=n1
  have hd:=hq (by omega)
  (first | refine brLt (fun n2=>?_) (fun n2=>?_) | refine brLe (fun n2=>?_) (fun n2=>?_) | refine brEq (fun n2=>?_) (fun n2=>?_))
  ·have n2:((V:Nat):Int)≤1024:=n2
   have hVe:=j2.eq (by omega)
   have hmul:((V:Nat):Int) * dn=((V * dn.toNat:Nat):Int):=by rw [Int.natCast_mul,show((dn.toNat:Nat):Int)=dn by omega]
   have hle:V * dn.toNat≤1024 * 4:=Nat.mul_le_mul (by omega) (by omega)
   refine⟨((V * dn.toNat:Nat):Int),by rw [← hmul];exact wrap_i64 (by omega) (by omega),?_⟩
   refine⟨_,wrap_i64 (by omega) (by omega),?_⟩
   exact⟨(j+1,V * dn.toNat),⟨by show j+1≤0;omega,by show WI (V * dn.toNat) (_ * dn.toNat ^ (j+1));rw [Nat.pow_succ,← Nat.mul_assoc,← hVe];exact⟨fun _=>rfl,fun h=>h,hle⟩⟩,ent_of [] [] [] rfl (sk) (sk) rfl,by show 0 - (j+1)<0 - j;omega⟩
  ·have n2:¬ ((V:Nat):Int)≤1024:=n2
   have hVb:=j2.big (by omega)
   have hV:WI V (worldsI [] (ds.take (k+1))):=by
    refine⟨fun h=>by omega,fun _=>?_,hV4⟩
    rw [sW]
    exact Nat.lt_of_lt_of_le hVb (Nat.mul_le_mul_left _ (Nat.pow_le_pow_right (by omega) j1))
   refine⟨_,wrap_i64 (by omega) (by omega),?_⟩
   exact⟨(k+1,V),⟨by show k+1≤ds.length;omega,by show nodesI [] (ds.take (k+1))≤6 * (k+1);omega,hV⟩,ent_of [] [] [] rfl ⟨⟨rfl,rfl⟩,congrArg (fun z:Nat=>i64 z) hN,congrArg (fun z:Nat=>i64 z) hG,rfl,rfl,trivial⟩ (sk) rfl,by show ds.length - (k+1)<ds.length - k;omega⟩
abbrev otA9:OT:=(.pure 0 (.pure 1 (.pure 2 (.pure 3 (.pure 4 (.pure 5 (.pure 6 (.pure 7 (.pure 8 (.pure 9 (.pure 10 (.eff 11 [] (.eff 12 [] (.pure 13 .fin) .nil) .nil))))))))))))
theorem valid_z {ds:List De} (h:validB ds=true):∀ d∈ds,DcZ d:=fun d hd=>declB_z ((valid_decl h).2 d hd)
abbrev raH (ds:List De) (x:Nat × List Iss):Hp:=⟨2,[(1,isO x.2),(0,scO ds)]⟩
theorem rall_c (ds:List De) (hv:validB ds=true):Pure cx 30 [srcV ds] (·=.ret [isl (allI ds)]):=by
 obtain⟨hlen,hdv⟩:=valid_dcs hv
 have hz:=valid_z hv
 have hok:∀ d∈ds,OkD d:=fun d hd=>(hdv d hd).ok.ok
 have hm:(ds.map De.cells).length=ds.length:=List.length_map ..
 have hpre:∀ k,(headI ds++eachI (grainI ds) [] (ds.take k)).length≤13000:=fun k=>by
  have h1:=headI_len ds
  have h2:=eachI_len (grainI ds) (ds.take k) [] fun d hd=>hdv d (List.mem_of_mem_take hd)
  rw [List.length_take] at h2
  rw [List.length_append];omega
 refine pure_of_vc Tryz.func30 rfl rfl rfl ?_
 apply cut
 case h=>
  intro key
  by_cases h0:ds=[]
  ·have hh:headI ds=[⟨1,0,[]⟩]:=by rw [h0];rfl
   have hg:grainI ds=0:=by rw [h0];rfl
   refine And.intro (fun _=>?_) (fun h=>absurd (show((ds.map De.cells).length:Int)=0 by rw [h0];rfl) h)
   refine⟨by show 0+1≤1;omega,[Iss.cells ⟨1,0,[]⟩],rfl,?_⟩
   refine⟨by show 1 * 32≤140737488355328;decide,?_⟩
   exact⟨Nat × List Iss,fun x=>[(1, .ptr 0 0 0),(3, .sl 1 3 0 x.2.length),(4, .p (i64 (grainI ds))),(5, .p (i64 x.1))],raH ds,fun x=>x.1≤ds.length∧x.2=headI ds++eachI (grainI ds) [] (ds.take x.1),fun x=>ds.length - x.1,⟨(0,[⟨1,0,[]⟩]),⟨Nat.zero_le _,by show _=headI ds++[];rw [List.append_nil,hh]⟩,ent_of [] [(1,2)] [] rfl ⟨⟨rfl,rfl⟩,rfl,congrArg (fun z:Int=>i64 z) hg,rfl,trivial⟩ (sk) rfl⟩,key.get⟩
  ·have hpos:1≤ds.length:=by
    cases ds with
    | nil=>exact absurd rfl h0
    | cons d r=>show 1≤r.length+1;omega
   have hh:∃ t:De,(ds.map De.cells)[0]?=some t.cells∧(headI ds=if t.kind=1 then [] else [⟨1,0,[]⟩])∧(grainI ds=if t.kind=1 then t.n else 0):=by
    cases ds with
    | nil=>exact absurd rfl h0
    | cons t r=>exact⟨t,rfl,rfl,rfl⟩
   obtain⟨⟨tk,tn,tnm,tpl,trs,tcs⟩,ht,hh,hg⟩:=hh
   refine And.intro (fun h=>absurd (show((ds.map De.cells).length:Int)=0 from h) (by rw [hm];omega)) (fun _=>?_)
   refine⟨_,⟨by decide,(De.mk tk tn tnm tpl trs tcs).cells,ht,rfl⟩,?_⟩
   refine And.intro (fun k1=>?_) (fun k1=>?_)
   ·have k1:tk=1:=k1
    simp only [if_pos k1] at hh hg
    refine⟨_,⟨by decide,(De.mk tk tn tnm tpl trs tcs).cells,ht,rfl⟩,?_⟩
    exact⟨Nat × List Iss,fun x=>[(1, .ptr 0 0 0),(3, .sl 1 3 0 x.2.length),(4, .p (i64 (grainI ds))),(5, .p (i64 x.1))],raH ds,fun x=>x.1≤ds.length∧x.2=headI ds++eachI (grainI ds) [] (ds.take x.1),fun x=>ds.length - x.1,⟨(0,[]),⟨Nat.zero_le _,by show _=headI ds++[];rw [List.append_nil,hh]⟩,ent_of [] [] [(1,3)] rfl ⟨⟨rfl,rfl⟩,sk,congrArg (fun z:Int=>i64 z) hg,rfl,trivial⟩ (sk) rfl⟩,key.get⟩
   ·have k1:¬ tk=1:=k1
    simp only [if_neg k1] at hh hg
    refine⟨by show 0+1≤1;omega,[Iss.cells ⟨1,0,[]⟩],rfl,?_⟩
    refine⟨by show 1 * 32≤140737488355328;decide,?_⟩
    exact⟨Nat × List Iss,fun x=>[(1, .ptr 0 0 0),(3, .sl 1 3 0 x.2.length),(4, .p (i64 (grainI ds))),(5, .p (i64 x.1))],raH ds,fun x=>x.1≤ds.length∧x.2=headI ds++eachI (grainI ds) [] (ds.take x.1),fun x=>ds.length - x.1,⟨(0,[⟨1,0,[]⟩]),⟨Nat.zero_le _,by show _=headI ds++[];rw [List.append_nil,hh]⟩,ent_of [] [(1,2)] [] rfl ⟨⟨rfl,rfl⟩,rfl,congrArg (fun z:Int=>i64 z) hg,rfl,trivial⟩ (sk) rfl⟩,key.get⟩
 case k=>
  rintro⟨k,cur⟩ ⟨k1,k2⟩
  simp only [] at k1 k2
  have hcl:cur.length≤13000:=by rw [k2];exact hpre k
  (first | refine brLt (fun m1=>?_) (fun m1=>?_) | refine brLe (fun m1=>?_) (fun m1=>?_) | refine brEq (fun m1=>?_) (fun m1=>?_))
  rotate_left
  ·have m1:¬ (k:Int)<((ds.map De.cells).length:Nat):=m1
   rw [hm] at m1
   rw [show ds.take k=ds from take_all (by omega)] at k2
   obtain⟨R,hR⟩:∃ R,R=allI ds:=⟨_,rfl⟩
   rw [← hR]
   by_cases hb:cur=[]
   ·subst hb
    have hno:eachI (grainI ds) [] ds=[]:=(List.append_eq_nil_iff.1 k2.symm).2
    have hRa:R=if bigI ds then [⟨10,ds.length,[]⟩] else []:=by rw [hR,allI,if_pos (show baseI ds=[] from k2.symm)]
    have hB:=rbig_c ds hlen hok hno
    refine And.intro (fun _=>?_) (fun h=>absurd rfl h)
    by_cases hbg:bigI ds=true
    ·rw [if_pos hbg] at hRa
     rw [hbg] at hB
     refine hB.eq rfl ?_
     refine⟨by show 0+1≤1;omega,[Iss.cells (Iss.mk 10 ((ds.map De.cells).length:Nat) [])],rfl,?_⟩
     refine⟨by show 0+0≤0;decide,[],rfl,by show(0+1) * 32≤140737488355328;decide,[Iss.cells (Iss.mk 10 ((ds.map De.cells).length:Nat) [])],rfl,?_⟩
     exact end1 (isl [Iss.mk 10 ((ds.map De.cells).length:Nat) []]) rfl ⟨_,rfl,by show 0+1≤1;decide,rfl⟩ (by rw [hRa,hm])
    ·rw [if_neg hbg] at hRa
     rw [Bool.not_eq_true] at hbg
     rw [hbg] at hB
     refine hB.eq rfl ?_
     exact end1 (isl []) rfl ⟨_,rfl,by show 0+0≤0;decide,rfl⟩ (by rw [hRa])
   ·have hRa:R=cur:=by
     rw [hR,allI,if_neg (show ¬ baseI ds=[] from fun e=>hb (k2.trans e))];exact k2.symm
    have hl0:¬ cur.length=0:=fun e=>hb (List.eq_nil_of_length_eq_zero e)
    refine And.intro (fun h=>absurd (show((cur.length:Nat):Int)=0 from h) (by omega)) (fun _=>?_)
    exact end1 (isl cur) rfl ⟨_,rfl,by show 0+cur.length≤(cur.map Iss.cells).length;simp,takeAll (by simp)⟩ (by rw [hRa])
  have m1:(k:Int)<((ds.map De.cells).length:Nat):=m1
  rw [hm] at m1
  have hk:k<ds.length:=by omega
  have hcell:=decell hk
  have hd:=hdv _ (getD_memL de0 hk)
  have hdz:=hz _ (getD_memL de0 hk)
  have hO:=rone_c (ds.take k) (ds.getD k de0) (grainI ds) hd hdz (by rw [List.length_take];omega) fun d hd=>hok d (List.mem_of_mem_take hd)
  have hln:=oneI_len (ds.take k) (grainI ds) hd
  have k4:cur++oneI (ds.take k) (ds.getD k de0) (grainI ds)=headI ds++eachI (grainI ds) [] (ds.take (k+1)):=by rw [each_next hk,← List.append_assoc,← k2]
  generalize oneI (ds.take k) (ds.getD k de0) (grainI ds)=X at hO hln k4
  generalize ds.getD k de0=d at hcell hO
  obtain⟨dk,dn,dnm,dpl,drs,dcs⟩:=d
  have ea:[des (ds.take k),(De.mk dk dn dnm dpl drs dcs).pv,i64 (grainI ds)]=[PV.lsts 6 ((ds.map De.cells).take ((k:Nat):Int).toNat),(De.mk dk dn dnm dpl drs dcs).pv,i64 (grainI ds)]:=by show [PV.lsts 6 ((ds.take k).map De.cells),_,_]=_;rw [List.map_take];rfl
  rw [ea] at hO
  refine vdraw_ot otA9 (by kernel_rfl) ?_
  refine⟨by show(0:Int)≤(k:Nat)∧((k:Nat):Int)≤((ds.map De.cells).length:Nat);rw [hm];omega,?_⟩
  refine⟨_,⟨by omega,(De.mk dk dn dnm dpl drs dcs).cells,hcell,rfl⟩,?_⟩
  refine hO.eq rfl ?_
  refine⟨by show 0+cur.length≤(cur.map Iss.cells).length;simp,cur.map Iss.cells,takeAll (by simp),by show(cur.length+(X.map Iss.cells).length) * 32≤140737488355328;rw [List.length_map];omega,(cur++X).map Iss.cells,by rw [List.map_append],?_⟩
  refine⟨_,wrap_i64 (by omega) (by omega),?_⟩
  exact⟨(k+1,cur++X),⟨by show k+1≤ds.length;omega,k4⟩,ent_of [] [(1,2)] [] rfl ⟨⟨rfl,rfl⟩,congrArg (fun j:Nat=>AV.sl 2 3 0 j) (by rw [List.length_append,List.length_map]),rfl,rfl,trivial⟩ (sk) rfl,by show ds.length - (k+1)<ds.length - k;omega⟩
theorem rissues_c (ds:List De) (hb:BigP ds):Pure cx 10 [srcV ds] (·=.ret (issV ds)):=by
 have hC:=rOk_c ds hb
 by_cases hv:validB ds=true
 ·have hI:issV ds=[isl (allI ds),i64 0]:=by rw [issV,if_pos hv]
  have hA:=rall_c ds hv
  rw [hI]
  rw [hv] at hC
  refine pure_of_vc Tryz.func10 rfl rfl rfl ?_
  refine hC.eq rfl ?_
  refine hA.eq rfl ?_
  exact end2 (isl (allI ds)) (i64 0) rfl rfl rfl rfl
 ·have hI:issV ds=[isl [],i64 380]:=by rw [issV,if_neg hv]
  rw [hI]
  rw [Bool.not_eq_true] at hv
  rw [hv] at hC
  refine pure_of_vc Tryz.func10 rfl rfl rfl ?_
  refine hC.eq rfl ?_
  exact end2 (isl []) (i64 380) rfl (.inr (.inr ⟨3,rfl⟩)) rfl rfl
set_option maxHeartbeats 4000000
set_option maxHeartbeats 40000000
theorem parR_big {s:List UInt8} {ds:List De} (h:parR s=.inr ds):BigP ds:=by
 unfold parR at h
 split at h
 ·cases h
 ·cases hr:readR s with
  | err p c=>rw [hr] at h;cases h
  | ok ws=>
   rw [hr] at h
   have hg:=read_good hr
   have hl:=hg.len
   cases hp:progR ws (fuelW ws) (fuelW ws) [] 0 with
   | inl q=>simp only [hp] at h;cases h
   | inr x=>
    obtain⟨l,q⟩:=x
    simp only [hp] at h
    split at h
    ·injection h with h
     subst h
     exact prog_bigP hg (by rw [fuelW];omega) hp
    ·cases h
theorem parR_valid {s:List UInt8} {ds:List De} (h:parR s=.inr ds):validB ds=true:=by
 unfold parR at h
 split at h
 ·cases h
 ·cases hr:readR s with
  | err p c=>rw [hr] at h;cases h
  | ok ws=>
   rw [hr] at h
   cases hp:progR ws (fuelW ws) (fuelW ws) [] 0 with
   | inl q=>simp only [hp] at h;cases h
   | inr x=>
    obtain⟨l,q⟩:=x
    simp only [hp] at h
    split at h
    ·rename_i hv
     injection h with h
     subst h
     exact hv
    ·cases h
abbrev hdS:List UInt8:=[103,114,97,105,110,32,52,32,59,32,112,108,97,116,101,32,112,32,61,32,50,32,59,32,110,111,100,101,32,97,32,91,32,112,32,93,32,58,32,50,32,61,32,123,32,101,108,115,101,32,58,32,49,32,51,32,125,32,59,32]
theorem headc_c:Pure cx 22 [] (·=.ret [.str hdS]):=by
 refine pure_of_vc Tryz.func22 rfl rfl rfl ?_
 exact end1 _ rfl rfl rfl
theorem issue_c (k d:Int) (nm:List UInt8):Pure cx 15 [i64 k,i64 d, .str nm] (·=.ret [.agg (Iss.mk k d nm).cells]):=by
 refine pure_of_vc Tryz.func15 rfl rfl rfl ?_
 exact end1 _ rfl rfl rfl
def okS (s:List UInt8) (want:List Iss):Bool:=match parR s with
 | .inl _=>false
 | .inr ds=>decide (allI ds=want)
theorem says_yes (s:List UInt8) (want:List Iss) (h:okS s want=true) (hl:want.length≤1000000):Pure cx 24 [.str s,isl want] (·=.ret [.bool true]):=by
 have hP:=parse_c s
 rw [okS] at h
 cases hp:parR s with
 | inl x=>rw [hp] at h;cases h
 | inr ds=>
  rw [hp] at h hP
  have ha:allI ds=want:=of_decide_eq_true h
  have hb:=parR_big hp
  have hv:=parR_valid hp
  have hI:=issues_c ds hb
  have hC:=scheck_c ds hb
  have hS:=issame_c want want hl hl
  rw [decide_eq_true (show want=want from rfl)] at hS
  rw [issV,if_pos hv,ha] at hI
  rw [scopeE,if_pos hv,ha] at hC
  clear h hp
  by_cases hn:want=[]
  ·rw [if_pos hn] at hC
   subst hn
   refine pure_of_vc Tryz.func24 rfl rfl rfl ?_
   refine hP.eq rfl ?_
   refine hI.eq rfl ?_
   refine hC.eq rfl ?_
   refine And.intro (fun _=>?_) (fun h=>absurd rfl h)
   refine And.intro (fun _=>?_) (fun h=>absurd rfl h)
   refine hS.eq rfl ?_
   refine And.intro (fun _=>?_) (fun h=>absurd rfl h)
   refine And.intro (fun _=>?_) (fun h=>absurd rfl h)
   refine And.intro (fun _=>?_) (fun h=>absurd rfl h)
   refine And.intro (fun _=>?_) (fun h=>absurd rfl h)
   exact end1 _ rfl rfl rfl
  ·rw [if_neg hn] at hC
   have hp1:1≤want.length:=List.length_pos_iff.2 hn
   have hm:(want.map Iss.cells).length=want.length:=List.length_map ..
   refine pure_of_vc Tryz.func24 rfl rfl rfl ?_
   refine hP.eq rfl ?_
   refine hI.eq rfl ?_
   refine hC.eq rfl ?_
   refine And.intro (fun _=>?_) (fun h=>absurd rfl h)
   refine And.intro (fun _=>?_) (fun h=>absurd rfl h)
   refine hS.eq rfl ?_
   refine And.intro (fun h=>absurd (show(390:Int)=0 from h) (by decide)) (fun _=>?_)
   refine And.intro (fun h=>absurd (show((want.map Iss.cells).length:Int)=0 from h) (by rw [hm];omega)) (fun _=>?_)
   refine And.intro (fun _=>?_) (fun h=>absurd rfl h)
   refine And.intro (fun h=>absurd (show(390:Int)=0 from h) (by decide)) (fun _=>?_)
   refine And.intro (fun _=>?_) (fun h=>absurd rfl h)
   exact end1 _ rfl rfl rfl
theorem sy_h:okS hdS []=true:=by kernel_rfl
abbrev syT0:List UInt8:=[110,111,100,101,32,98,32,58,32,51,32,102,114,111,109,32,97,32,91,32,49,32,93,32,44,32,99,32,61,32,123,32,97,32,91,32,49,32,93,32,61,32,50,32,58,32,52,32,48,32,48,32,59,32,101,108,115,101,32,58,32,49,32,51,32,125,32,59]
abbrev syW0:List Iss:=[⟨3,3,[99]⟩,⟨8,3,[97]⟩,⟨9,3,[]⟩]
theorem sy_0:okS (hdS++syT0) syW0=true:=by kernel_rfl
abbrev syT1:List UInt8:=[110,111,100,101,32,98,32,58,32,50,32,102,114,111,109,32,97,32,61,32,123,32,97,32,91,32,48,32,93,32,61,32,49,32,58,32,52,32,48,32,59,32,101,108,115,101,32,58,32,48,32,52,32,125,32,59]
abbrev syW1:List Iss:=[⟨4,3,[97]⟩,⟨7,3,[97]⟩]
theorem sy_1:okS (hdS++syT1) syW1=true:=by kernel_rfl
abbrev syT2:List UInt8:=[110,111,100,101,32,98,32,91,32,112,32,93,32,58,32,50,32,102,114,111,109,32,97,32,91,32,112,32,43,32,49,32,93,32,44,32,98,32,91,32,112,32,43,32,49,32,93,32,61,32,123,32,101,108,115,101,32,58,32,50,32,50,32,125,32,59,32,103,97,105,110,32,102,114,111,109,32,98,32,91,32,112,32,93,32,61,32,123,32,101,108,115,101,32,58,32,49,48,49,32,125,32,59]
abbrev syW2:List Iss:=[⟨4,4,[98]⟩,⟨9,4,[]⟩]
theorem sy_2:okS (hdS++syT2) syW2=true:=by kernel_rfl
abbrev syT3:List UInt8:=[112,108,97,116,101,32,112,32,61,32,55,32,59,32,99,104,111,111,115,101,32,112,32,58,32,49,32,59]
abbrev syW3:List Iss:=[⟨1,0,[]⟩,⟨5,0,[112]⟩,⟨2,1,[112]⟩,⟨6,1,[112]⟩]
theorem sy_3:okS syT3 syW3=true:=by kernel_rfl
abbrev syT4:List UInt8:=[110,111,100,101,32,98,32,58,32,52,32,61,32,123,32,101,108,115,101,32,58,32,49,32,49,32,49,32,49,32,125,32,59,32,110,111,100,101,32,99,32,91,32,112,32,93,32,58,32,52,32,61,32,123,32,101,108,115,101,32,58,32,49,32,49,32,49,32,49,32,125,32,59,32,110,111,100,101,32,100,32,91,32,112,32,93,32,58,32,52,32,61,32,123,32,101,108,115,101,32,58,32,49,32,49,32,49,32,49,32,125,32,59]
abbrev syW4:List Iss:=[⟨10,6,[]⟩]
theorem sy_4:okS (hdS++syT4) syW4=true:=by kernel_rfl
theorem works39_c:Pure cx 12 [] (·=.ret [.bool true]):=by
 refine pure_of_vc Tryz.func12 rfl rfl rfl ?_
 refine headc_c.eq rfl ?_
 refine((says_yes hdS [] sy_h (by decide)).arg (args':=[.str hdS, .nils]) ⟨_,_,rfl,rfl,_,_,rfl, .inr (.inr ⟨3,rfl⟩),rfl⟩).eq rfl ?_
 refine headc_c.eq rfl ?_
 refine⟨by show List.length _+List.length _≤9223372036854775807;(try simp) <;> omega,?_⟩
 refine(issue_c 3 3 [99]).eq rfl ?_
 refine(issue_c 8 3 [97]).eq rfl ?_
 refine(issue_c 9 3 []).eq rfl ?_
 refine(says_yes _ syW0 sy_0 (by decide)).lends [0] rfl ⟨_,_,rfl,rfl,_,_,rfl,⟨_,rfl,Nat.le_refl _,rfl⟩,rfl⟩ ?_
 refine headc_c.eq rfl ?_
 refine⟨by show List.length _+List.length _≤9223372036854775807;(try simp) <;> omega,?_⟩
 refine(issue_c 4 3 [97]).eq rfl ?_
 refine(issue_c 7 3 [97]).eq rfl ?_
 refine(says_yes _ syW1 sy_1 (by decide)).lends [1] rfl ⟨_,_,rfl,rfl,_,_,rfl,⟨_,rfl,Nat.le_refl _,rfl⟩,rfl⟩ ?_
 refine headc_c.eq rfl ?_
 refine⟨by show List.length _+List.length _≤9223372036854775807;(try simp) <;> omega,?_⟩
 refine(issue_c 4 4 [98]).eq rfl ?_
 refine(issue_c 9 4 []).eq rfl ?_
 refine(says_yes _ syW2 sy_2 (by decide)).lends [2] rfl ⟨_,_,rfl,rfl,_,_,rfl,⟨_,rfl,Nat.le_refl _,rfl⟩,rfl⟩ ?_
 refine(issue_c 1 0 []).eq rfl ?_
 refine(issue_c 5 0 [112]).eq rfl ?_
 refine(issue_c 2 1 [112]).eq rfl ?_
 refine(issue_c 6 1 [112]).eq rfl ?_
 refine(says_yes _ syW3 sy_3 (by decide)).lends [3] rfl ⟨_,_,rfl,rfl,_,_,rfl,⟨_,rfl,Nat.le_refl _,rfl⟩,rfl⟩ ?_
 refine headc_c.eq rfl ?_
 refine⟨by show List.length _+List.length _≤9223372036854775807;(try simp) <;> omega,?_⟩
 refine(issue_c 10 6 []).eq rfl ?_
 refine(says_yes _ syW4 sy_4 (by decide)).lends [4] rfl ⟨_,_,rfl,rfl,_,_,rfl,⟨_,rfl,Nat.le_refl _,rfl⟩,rfl⟩ ?_
 exact end1 _ rfl rfl rfl
end Go.Proofs.YtmepdfingcmkmaaGreatDoor
namespace Go.Proofs.YtmepdfingcmkmaaGreatDoor.Y
open Go
def partsOf (P:Program) (t:TypeId):Option (List (TypeId × Nat)):=
 match P.underlying t with
 | some (.struct fs)=>some (fs.toList.map fun f=>(f.type,f.offset))
 | some (.array k e)=>some ((List.range k).map fun i=>(e,i * P.cellsOf e))
 | _=>none
def tiles (P:Program):List (TypeId × Nat)→Nat→Option Nat
 | [],o=>some o
 | f::r,o=>if f.2=o then tiles P r (o+P.cellsOf f.1) else none
theorem tiles_le {P:Program}:∀ {l:List (TypeId × Nat)} {o n:Nat},tiles P l o=some n→o≤n
 | [],o,n,h=>by simp only [tiles,Option.some.injEq] at h;omega
 | f::r,o,n,h=>by
  simp only [tiles] at h
  split at h
  ·have:=tiles_le h;omega
  ·cases h
def basic:TypeDesc→Bool
 | .bool=>true
 | .int _=>true
 | .string=>true
 | _=>false
def supp (P:Program):Nat→TypeId→Bool
 | 0,_=>false
 | n+1,t=>match partsOf P t with
  | some l=>decide (tiles P l 0=some (P.cellsOf t)) && l.all fun f=>supp P n f.1
  | none=>match P.underlying t with
   | some (.slice e)=>decide (0<P.cellsOf e) && supp P n e
   | some d=>basic d
   | none=>false
def Flds (P:Program) (p:TypeId→List PV→Prop):List (TypeId × Nat)→List PV→Prop
 | [],xs=>xs=[]
 | f::r,xs=>∃ ys zs,xs=ys++zs∧ys.length=P.cellsOf f.1∧p f.1 ys∧Flds P p r zs
def TyT (P:Program):Nat→TypeId→List PV→Prop
 | 0,_,_=>False
 | m+1,t,xs=>match partsOf P t with
  | some l=>Flds P (TyT P m) l xs
  | none=>match P.underlying t with
   | some .bool=>∃ b,xs=[.bool b]
   | some (.int k)=>∃ n,xs=[.int k n]∧(Lit.int k n).wf=true
   | some .string=>∃ s,xs=[.str s]∧s.length≤maxLen
   | some (.slice e)=>match Nat.beq (P.cellsOf e) 1 with
    | true=>∃ ys,xs=[.lst ys]∧ys.length≤maxLen∧∀ y∈ys,TyT P m e [y]
    | false=>∃ yss,xs=[.lsts (P.cellsOf e) yss]∧yss.length≤maxLen∧∀ ys∈yss,TyT P m e ys
   | _=>False
section
variable {H:Type} {enc:TypeId × Value→H} {P:Program} {W:World} {sp:Nat→Bool} {held:Bool}
theorem cells_take {a:Addr} {n:Nat} {cs:List Value} (hn:0<n) (h:W.cells? 0 a n=some cs) :
  ∃ c t z,W.heap[a.block]?=some (.cells c t z)∧a.spot=none∧cs.length=n∧a.off+n≤c.toList.length∧cs=(c.toList.drop a.off).take n:=by
 unfold World.cells? at h
 rw [if_pos (Nat.zero_le _)] at h
 have hl:=mapM_some_length h
 rw [List.length_range] at hl
 have hg:∀ i,i<n→W.cell? (a.add i)=cs[i]?:=fun i hi=>mapM_some_get h i i (by simp [hi])
 have h0:=hg 0 hn
 have ha:a.add 0=a:=by simp [Addr.add]
 rw [ha,List.getElem?_eq_getElem (by omega)] at h0
 unfold World.cell? at h0
 split at h0
 ·rename_i c t z hb
  have hs:a.spot=none:=by
   cases hs:a.spot with
   | none=>rfl
   | some _=>simp [hs] at h0
  have hcell:∀ i,i<n→c[a.off+i]?=cs[i]?:=by
   intro i hi
   have:=hg i hi
   unfold World.cell? at this
   have hblk:(a.add i).block=a.block:=by unfold Addr.add;split <;> rfl
   have hsp:(a.add i).spot=none:=by unfold Addr.add;split <;> first | exact hs | rfl
   have hoff:(a.add i).off=a.off+i:=by unfold Addr.add;split <;> simp_all
   rw [hblk,hb] at this
   simp only [hsp,hoff] at this
   simpa using this
  have hlen:a.off+n≤c.toList.length:=by
   have:=hcell (n - 1) (by omega)
   rw [List.getElem?_eq_getElem (by omega)] at this
   have:=(Array.getElem?_eq_some_iff.1 this).1
   simp
   omega
  refine⟨c,t,z,hb,hs,hl,hlen,?_⟩
  refine List.ext_getElem? fun i=>?_
  by_cases hi:i<n
  ·rw [← hcell i hi,List.getElem?_take_of_lt hi,List.getElem?_drop]
   simp
  ·rw [List.getElem?_eq_none (by omega),List.getElem?_eq_none (by simp;omega)]
 ·cases h0
def AllCells (fz:Fzn) (W:World):Prop:=∀ b c t z,W.heap[b]?=some (.cells c t z)→fz b=some c.toList
def Rd (P:Program) (fz:Fzn) (m:Nat) (t:TypeId) (cs:List Value):Prop:=∃ xs,VPL fz xs cs∧(∀ u∈cs,plainV u=true)∧TyT P m t xs
theorem flds_of {fz:Fzn} {m:Nat} {cs:List Value}:∀ (l:List (TypeId × Nat)) (o:Nat),tiles P l o=some cs.length→(∀ f∈l,Rd P fz m f.1 ((cs.drop f.2).take (P.cellsOf f.1))) →
  ∃ xs,VPL fz xs (cs.drop o)∧(∀ u∈cs.drop o,plainV u=true)∧Flds P (TyT P m) l xs
 | [],o,ht,_=>by
  simp only [tiles,Option.some.injEq] at ht
  subst ht
  exact⟨[],by simp [VPL],by simp,rfl⟩
 | f::r,o,ht,hr=>by
  simp only [tiles] at ht
  split at ht
  ·rename_i ho
   have hle:=tiles_le ht
   obtain⟨ys,h1,h2,h3⟩:=hr f (by simp)
   obtain⟨zs,k1,k2,k3⟩:=flds_of r (o+P.cellsOf f.1) ht fun g hg=>hr g (by simp [hg])
   rw [ho] at h1 h2
   have e:cs.drop o=(cs.drop o).take (P.cellsOf f.1)++cs.drop (o+P.cellsOf f.1):=by
    rw [← List.drop_drop,List.take_append_drop]
   refine⟨ys++zs,?_,?_,ys,zs,rfl,?_,h3,k3⟩
   ·rw [e];exact VPL_append h1 k1
   ·rw [e];intro u hu;rcases List.mem_append.1 hu with hu | hu
    ·exact h2 u hu
    ·exact k2 u hu
   ·rw [← VPL_length h1,List.length_take,List.length_drop];omega
  ·cases ht
theorem parts_trod {t:TypeId} {l:List (TypeId × Nat)} (hp:partsOf P t=some l) {n:Nat} {cs:List Value} {x:DataW H × List MemPlace} (h:DataW.trod enc P W 0 sp held n t cs=some x) :
  ∃ (xs:List (DataW H × List MemPlace)) (k:Nat),n=k+1∧x=(.agg (xs.map (·.1)),xs.flatMap (·.2))∧cs.length=P.cellsOf t∧xs.length=l.length ∧
   ∀ (i:Nat) (f:TypeId × Nat),l[i]?=some f→DataW.trod enc P W 0 sp held k f.1 ((cs.drop f.2).take (P.cellsOf f.1))=xs[i]?:=by
 unfold partsOf at hp
 split at hp
 ·rename_i fs hu
  injection hp with hp
  subst hp
  obtain⟨xs,k,h1,h2,h3,h4,h5⟩:=DataW.trod_struct hu h
  refine⟨xs,k,h1,h2,h3,by simpa using h4,fun i f hf=>?_⟩
  rw [List.getElem?_map,Option.map_eq_some_iff] at hf
  obtain⟨g,hg,rfl⟩:=hf
  exact h5 i g (by simpa using hg)
 ·rename_i k' e hu
  injection hp with hp
  subst hp
  obtain⟨xs,k,h1,h2,h3,h4,h5⟩:=DataW.trod_array hu h
  refine⟨xs,k,h1,h2,h3,by simpa using h4,fun i f hf=>?_⟩
  rw [List.getElem?_map,Option.map_eq_some_iff] at hf
  obtain⟨j,hj,rfl⟩:=hf
  have hi:=(List.getElem?_eq_some_iff.1 hj)
  obtain⟨hi,hj⟩:=hi
  simp at hi hj
  subst hj
  exact h5 i hi
 ·cases hp
theorem flat_singles {l:List (List PV)} (h:∀ cs∈l,cs.length=1):l.flatten.length=l.length∧∀ y∈l.flatten,[y]∈l:=by
 induction l with
 | nil=>simp
 | cons x r ih=>
  have hx:=h x (by simp)
  obtain⟨y,rfl⟩:∃ y,x=[y]:=by
   match x,hx with
   | [y],_=>exact⟨y,rfl⟩
  obtain⟨h1,h2⟩:=ih fun c hc=>h c (by simp [hc])
  refine⟨by simp [h1],fun z hz=>?_⟩
  simp at hz
  rcases hz with rfl | hz
  ·simp
  ·have:=h2 z (by simpa using hz)
   simp [this]
theorem typed_of_trod {fz:Fzn} (hfz:AllCells fz W):∀ (m:Nat) (t:TypeId) (n:Nat) (cs:List Value) (x:DataW H × List MemPlace),supp P m t=true→DataW.trod enc P W 0 sp held n t cs=some x→Rd P fz m t cs
 | 0,_,_,_,_,hs,_=>by simp [supp] at hs
 | m+1,t,n,cs,x,hs,h=>by
  have ih:=typed_of_trod hfz m
  simp only [supp] at hs
  cases hp:partsOf P t with
  | some l=>
   simp only [hp,Bool.and_eq_true,decide_eq_true_eq,List.all_eq_true] at hs
   obtain⟨xs,k,h1,h2,h3,h4,h5⟩:=parts_trod hp h
   obtain⟨ys,g1,g2,g3⟩:=flds_of (fz:=fz) (m:=m) (cs:=cs) l 0 (by rw [h3];exact hs.1) fun f hf=>by
    obtain⟨i,hi,rfl⟩:=List.getElem_of_mem hf
    have:=h5 i _ (List.getElem?_eq_getElem hi)
    rw [List.getElem?_eq_getElem (by omega)] at this
    exact ih _ _ _ _ (hs.2 _ hf) this
   exact⟨ys,by simpa using g1,by simpa using g2,by simp only [TyT,hp];exact g3⟩
  | none=>
   simp only [hp] at hs
   cases hu:P.underlying t with
   | none=>simp [hu] at hs
   | some d=>
    simp only [hu] at hs
    cases d with
    | bool=>
     obtain⟨b,rfl,_⟩:=DataW.trod_bool hu h
     exact⟨[.bool b],by simp [VPL,VP],by simp [plainV],by simp [TyT,hp,hu]⟩
    | int k=>
     obtain⟨b,rfl,_,hw⟩:=DataW.trod_int hu h
     exact⟨[.int k b],by simp [VPL,VP],by simp [plainV],by simp [TyT,hp,hu,hw]⟩
    | string=>
     obtain⟨⟨⟨s⟩⟩,rfl,_,hw⟩:=DataW.trod_string hu h
     exact⟨[.str s],by simp [VPL,VP],by simp [plainV],by simp only [TyT,hp,hu];exact⟨s,rfl,hw⟩⟩
    | slice e=>
     simp only [Bool.and_eq_true,decide_eq_true_eq] at hs
     obtain⟨hs0,hse⟩:=hs
     have fin:∀ (v:Value) (len:Nat) (yss:List (List PV)),len≤maxLen→yss.length=len→(∀ ys∈yss,ys.length=P.cellsOf e∧TyT P m e ys)→plainV v=true →
       (yss=[]→∃ a c,v=.slice a 0 c)→(yss ≠ []→∃ b o c arr us,v=.slice (some ⟨b,o,none⟩) len c∧len≤c∧fz b=some arr∧VPLL fz (P.cellsOf e) yss us∧Seg arr o us)→Rd P fz (m+1) t [v]:=by
      intro v len yss hml hlen hty hpl hnil hcons
      by_cases h1:P.cellsOf e=1
      ·have hfl:=flat_singles (l:=yss) fun c hc=>by rw [(hty c hc).1,h1]
       refine⟨[.lst yss.flatten],?_,by simpa using hpl,?_⟩
       ·simp only [VPL]
        refine⟨v,[],rfl,?_,rfl⟩
        simp only [VP]
        by_cases hy:yss=[]
        ·exact .inl ⟨by simp [hy],hnil hy⟩
        ·obtain⟨b,o,c,arr,us,k1,k2,k3,k4,k5⟩:=hcons hy
         exact .inr ⟨b,o,c,arr,us,by rw [hfl.1,hlen];exact k1,by rw [hfl.1,hlen];exact k2,k3,(VPLL_flat.1 k4).1,k5⟩
       ·simp only [TyT,hp,hu,h1]
        exact⟨_,rfl,by rw [hfl.1,hlen];exact hml,fun y hy=>(hty _ (hfl.2 y hy)).2⟩
      ·refine⟨[.lsts (P.cellsOf e) yss],?_,by simpa using hpl,?_⟩
       ·simp only [VPL]
        refine⟨v,[],rfl,?_,rfl⟩
        simp only [VP]
        by_cases hy:yss=[]
        ·exact .inl ⟨hy,hnil hy⟩
        ·obtain⟨b,o,c,arr,us,k1,k2,k3,k4,k5⟩:=hcons hy
         exact .inr ⟨b,o,c,arr,us,by rw [hlen];exact k1,by rw [hlen];exact k2,k3,k4,k5⟩
       ·have hb:Nat.beq (P.cellsOf e) 1=false:=beq_ne h1
        simp only [TyT,hp,hu,hb]
        exact⟨_,rfl,by rw [hlen];exact hml,fun y hy=>(hty _ hy).2⟩
     rcases DataW.trod_slice hu h with ⟨rfl,_⟩ | ⟨a,len,cap,elems,rest,n',rfl,rfl,_,_,hlc,hcm,hel,hE,_,_⟩
     ·exact fin _ 0 [] (by simp [maxLen]) rfl (by simp) rfl (fun _=>⟨none,0,rfl⟩) (by simp)
     ·have hcs:∀ i,i<len→∃ cs',W.cells? 0 (a.add (i * P.cellsOf e)) (P.cellsOf e)=some cs'∧Rd P fz m e cs':=by
       intro i hi
       have:=hE i hi
       rw [List.getElem?_eq_getElem (by omega),Option.bind_eq_some_iff] at this
       obtain⟨cs',h1,h2⟩:=this
       exact⟨cs',h1,ih _ _ _ _ hse h2⟩
      by_cases hl0:len=0
      ·subst hl0
       exact fin _ 0 [] (by simp [maxLen]) rfl (by simp) rfl (fun _=>⟨_,_,rfl⟩) (by simp)
      ·obtain⟨cs0,c1,_⟩:=hcs 0 (by omega)
       have ha:a.add (0 * P.cellsOf e)=a:=by simp [Addr.add]
       rw [ha] at c1
       obtain⟨c,tt,z,hb,hsp,_,_,_⟩:=cells_take hs0 c1
       have key:∀ k,k≤len→∃ yss us,yss.length=k∧VPLL fz (P.cellsOf e) yss us∧(∀ u∈us,plainV u=true)∧(∀ ys∈yss,ys.length=P.cellsOf e∧TyT P m e ys)∧(k ≠ 0→a.off+k * P.cellsOf e≤c.toList.length)∧us=(c.toList.drop a.off).take (k * P.cellsOf e):=by
        intro k
        induction k with
        | zero=>intro _;exact⟨[],[],rfl,by simp [VPLL],by simp,by simp,by simp,by simp⟩
        | succ k ihk=>
         intro hk
         obtain⟨yss,us,k1,k2,k3,k4,k5,k6⟩:=ihk (by omega)
         obtain⟨cs',d1,ys,d2,d3,d4⟩:=hcs k (by omega)
         obtain⟨c',tt',z',e1,e2,e3,e4,e5⟩:=cells_take hs0 d1
         have hblk:(a.add (k * P.cellsOf e)).block=a.block:=by unfold Addr.add;split <;> rfl
         have hoff:(a.add (k * P.cellsOf e)).off=a.off+k * P.cellsOf e:=by unfold Addr.add;split <;> simp_all
         rw [hblk,hb] at e1
         simp only [Option.some.injEq,Obj.cells.injEq] at e1
         obtain⟨rfl,_,_⟩:=e1
         rw [hoff] at e4 e5
         have hys:ys.length=P.cellsOf e:=by rw [← VPL_length d2,e3]
         have hf:=VPLL_flat.1 k2
         refine⟨yss++[ys],us++cs',by simp [k1],VPLL_flat.2 ⟨?_,?_⟩,?_,?_,fun _=>by rw [Nat.succ_mul];omega,?_⟩
         ·simpa using VPL_append hf.1 d2
         ·intro q hq;rcases List.mem_append.1 hq with hq | hq
          ·exact hf.2 q hq
          ·simp at hq;subst hq;exact hys
         ·intro u hu;rcases List.mem_append.1 hu with hu | hu
          ·exact k3 u hu
          ·exact d3 u hu
         ·intro q hq;rcases List.mem_append.1 hq with hq | hq
          ·exact k4 q hq
          ·simp at hq;subst hq;exact⟨hys,d4⟩
         ·rw [k6,e5,Nat.succ_mul,List.take_add,List.drop_drop]
       obtain⟨yss,us,k1,k2,k3,k4,k5,k6⟩:=key len (Nat.le_refl _)
       have k5:=k5 hl0
       have hne:yss ≠ []:=by intro e;subst e;simp at k1;omega
       refine fin _ len yss (by omega) k1 k4 rfl (fun e=>absurd e hne) fun _=>⟨a.block,a.off,cap,c.toList,us,?_,hlc,hfz _ _ _ _ hb,k2,?_⟩
       ·obtain⟨ab,ao,asp⟩:=a;simp only [] at hsp;subst hsp;rfl
       ·refine⟨c.toList.take a.off,c.toList.drop (a.off+len * P.cellsOf e),?_,?_,k3⟩
        ·rw [k6,List.append_assoc,← List.drop_drop,List.take_append_drop,List.take_append_drop]
        ·rw [List.length_take];omega
    | _=>simp [basic] at hs
mutual
def flatD:DataW H→Option (List PV)
 | .lit (.bool b)=>some [.bool b]
 | .lit (.int k n)=>some [.int k n]
 | .lit (.string s)=>some [.str s]
 | .agg ps=>flatDL ps
 | _=>none
def flatDL:List (DataW H)→Option (List PV)
 | []=>some []
 | d::r=>match flatD d,flatDL r with
  | some xs,some ys=>some (xs++ys)
  | _,_=>none
end
theorem fldsD_of {fz:Fzn} {cs:List Value} {Q:DataW H→List Value→Prop} (hQ:∀ d us xs,Q d us→flatD d=some xs→VPL fz xs us∧∀ u∈us,plainV u=true):∀ (l:List (TypeId × Nat)) (ds:List (DataW H)) (o:Nat) (xs:List PV),tiles P l o=some cs.length→ds.length=l.length →
  (∀ (i:Nat) f d,l[i]?=some f→ds[i]?=some d→Q d ((cs.drop f.2).take (P.cellsOf f.1)))→flatDL ds=some xs→VPL fz xs (cs.drop o)∧∀ u∈cs.drop o,plainV u=true
 | [],ds,o,xs,ht,hl,_,hd=>by
  simp only [tiles,Option.some.injEq] at ht
  subst ht
  obtain rfl:=List.eq_nil_of_length_eq_zero hl
  simp only [flatDL,Option.some.injEq] at hd
  subst hd
  simp [VPL]
 | f::r,[],o,xs,ht,hl,_,hd=>by simp at hl
 | f::r,d::ds,o,xs,ht,hl,hr,hd=>by
  simp only [tiles] at ht
  split at ht
  ·rename_i ho
   simp only [flatDL] at hd
   split at hd
   ·rename_i ys zs e1 e2
    injection hd with hd
    subst hd
    have h1:=hQ d _ ys (hr 0 f d rfl rfl) e1
    have h2:=fldsD_of hQ r ds (o+P.cellsOf f.1) zs ht (by simpa using hl) (fun i g e hg he=>hr (i+1) g e hg he) e2
    rw [ho] at h1
    have e:cs.drop o=(cs.drop o).take (P.cellsOf f.1)++cs.drop (o+P.cellsOf f.1):=by
     rw [← List.drop_drop,List.take_append_drop]
    rw [e]
    refine⟨VPL_append h1.1 h2.1,fun u hu=>?_⟩
    rcases List.mem_append.1 hu with hu | hu
    ·exact h1.2 u hu
    ·exact h2.2 u hu
   ·cases hd
  ·cases ht
theorem laid_of_trod {fz:Fzn}:∀ (m:Nat) (t:TypeId) (n:Nat) (cs:List Value) (x:DataW H × List MemPlace) (xs:List PV),supp P m t=true→DataW.trod enc P W 0 sp held n t cs=some x→flatD x.1=some xs→VPL fz xs cs∧∀ u∈cs,plainV u=true
 | 0,_,_,_,_,_,hs,_,_=>by simp [supp] at hs
 | m+1,t,n,cs,x,xs,hs,h,hd=>by
  have ih:=laid_of_trod (fz:=fz) m
  simp only [supp] at hs
  cases hp:partsOf P t with
  | some l=>
   simp only [hp,Bool.and_eq_true,decide_eq_true_eq,List.all_eq_true] at hs
   obtain⟨ys,k,h1,h2,h3,h4,h5⟩:=parts_trod hp h
   rw [h2] at hd
   simp only [flatD] at hd
   have:=fldsD_of (fz:=fz) (P:=P) (cs:=cs) (Q:=fun d us=>∀ xs,flatD d=some xs→VPL fz xs us∧∀ u∈us,plainV u=true) (fun d us xs hq hx=>hq xs hx) l (ys.map (·.1)) 0 xs (by rw [h3];exact hs.1) (by simpa using h4) (fun i f d hf hd'=>by
    rw [List.getElem?_map,Option.map_eq_some_iff] at hd'
    obtain⟨y,hy,rfl⟩:=hd'
    have e:=h5 i f hf
    rw [hy] at e
    intro xs hx
    exact ih _ _ _ _ xs (hs.2 _ (List.mem_of_getElem? hf)) e hx) hd
   simpa using this
  | none=>
   simp only [hp] at hs
   cases hu:P.underlying t with
   | none=>simp [hu] at hs
   | some d=>
    simp only [hu] at hs
    cases d with
    | bool=>
     obtain⟨b,rfl,rfl⟩:=DataW.trod_bool hu h
     simp only [flatD,Option.some.injEq] at hd
     subst hd
     exact⟨by simp [VPL,VP],by simp [plainV]⟩
    | int k=>
     obtain⟨b,rfl,rfl,hw⟩:=DataW.trod_int hu h
     simp only [flatD,Option.some.injEq] at hd
     subst hd
     exact⟨by simp [VPL,VP],by simp [plainV]⟩
    | string=>
     obtain⟨⟨⟨s⟩⟩,rfl,rfl,hw⟩:=DataW.trod_string hu h
     simp only [flatD,Option.some.injEq] at hd
     subst hd
     exact⟨by simp [VPL,VP],by simp [plainV]⟩
    | slice e=>
     rcases DataW.trod_slice hu h with ⟨rfl,rfl⟩ | ⟨a,len,cap,elems,rest,n',rfl,rfl,rfl,_⟩
     ·simp [flatD] at hd
     ·simp [flatD] at hd
    | _=>simp [basic] at hs
end
end Go.Proofs.YtmepdfingcmkmaaGreatDoor.Y
namespace Go.Proofs.YtmepdfingcmkmaaGreatDoor.Y
open Go
theorem mapM_mono {α β:Type} {f g:α→Option β}:∀ {l:List α} {r:List β},(∀ x∈l,∀ y,f x=some y→g x=some y)→l.mapM f=some r→l.mapM g=some r
 | [],r,_,h=>by simpa using h
 | x::l,r,hfg,h=>by
  simp only [List.mapM_cons,Option.bind_eq_bind,Option.bind_eq_some_iff,Option.pure_def,Option.some.injEq] at h ⊢
  obtain⟨y,h1,ys,h2,h3⟩:=h
  exact⟨y,hfg x (by simp) y h1,ys,mapM_mono (fun z hz=>hfg z (by simp [hz])) h2,h3⟩
def Kept (W W':World):Prop:=∀ (b:Nat) (o:Obj),W.heap[b]?=some o→W'.heap[b]?=some o
section
variable {H:Type} {enc:TypeId × Value→H} {P:Program} {W W':World} {sp':Nat→Bool} {held:Bool}
theorem Kept.cell (hk:Kept W W') {a:Addr} {v:Value} (h:W.cell? a=some v):W'.cell? a=some v:=by
 unfold World.cell? at h ⊢
 split at h
 ·rename_i c t z hb
  rw [hk _ _ hb]
  exact h
 ·cases h
theorem Kept.cells (hk:Kept W W') {a:Addr} {n:Nat} {cs:List Value} (h:W.cells? 0 a n=some cs):W'.cells? 0 a n=some cs:=by
 unfold World.cells? at h ⊢
 rw [if_pos (Nat.zero_le _)] at h ⊢
 exact mapM_mono (fun _ _ _ hx=>hk.cell hx) h
theorem trod_kept (hk:Kept W W') (hsp:∀ b,b<W.heap.size→sp' b=true):∀ (m:Nat) (t:TypeId) (n:Nat) (cs:List Value) (x:DataW H × List MemPlace),supp P m t=true→DataW.trod enc P W 0 (fun _=>true) held n t cs=some x→DataW.trod enc P W' 0 sp' held n t cs=some x
 | 0,_,_,_,_,hs,_=>by simp [supp] at hs
 | m+1,t,0,cs,x,hs,h=>by simp [DataW.trod] at h
 | m+1,t,n+1,cs,x,hs,h=>by
  have ih:=trod_kept hk hsp m
  simp only [supp] at hs
  cases hu:P.underlying t with
  | none=>
   have hp:partsOf P t=none:=by simp [partsOf,hu]
   simp [hp,hu] at hs
  | some d=>
   cases d with
   | struct fs=>
    have hp:partsOf P t=some (fs.toList.map fun f=>(f.type,f.offset)):=by simp [partsOf,hu]
    simp only [hp,Bool.and_eq_true,List.all_eq_true] at hs
    unfold DataW.trod at h ⊢
    rw [hu] at h ⊢
    simp only [] at h ⊢
    split at h
    ·rename_i hl
     rw [if_pos hl]
     rw [Option.map_eq_some_iff] at h ⊢
     obtain⟨xs,h1,h2⟩:=h
     exact⟨xs,mapM_mono (fun f hf y hy=>ih _ _ _ _ (hs.2 (f.type,f.offset) (List.mem_map_of_mem hf)) hy) h1,h2⟩
    ·cases h
   | array k e=>
    have hp:partsOf P t=some ((List.range k).map fun i=>(e,i * P.cellsOf e)):=by simp [partsOf,hu]
    simp only [hp,Bool.and_eq_true,List.all_eq_true] at hs
    unfold DataW.trod at h ⊢
    rw [hu] at h ⊢
    simp only [] at h ⊢
    split at h
    ·rename_i hl
     rw [if_pos hl]
     rw [Option.map_eq_some_iff] at h ⊢
     obtain⟨xs,h1,h2⟩:=h
     exact⟨xs,mapM_mono (fun i hi y hy=>ih _ _ _ _ (hs.2 (e,i * P.cellsOf e) (List.mem_map_of_mem hi)) hy) h1,h2⟩
    ·cases h
   | bool=>
    obtain⟨b,rfl,rfl⟩:=DataW.trod_bool hu h
    unfold DataW.trod;rw [hu]
   | int k=>
    obtain⟨b,rfl,rfl,hw⟩:=DataW.trod_int hu h
    unfold DataW.trod;rw [hu];simp [hw]
   | string=>
    obtain⟨s,rfl,rfl,hw⟩:=DataW.trod_string hu h
    unfold DataW.trod;rw [hu];simp [hw]
   | slice e=>
    have hp:partsOf P t=none:=by simp [partsOf,hu]
    simp only [hp,hu,Bool.and_eq_true,decide_eq_true_eq] at hs
    rcases DataW.trod_slice hu h with ⟨rfl,rfl⟩ | ⟨a,len,cap,_,_,_,_,rfl,_⟩
    ·unfold DataW.trod;rw [hu];rfl
    unfold DataW.trod at h ⊢
    rw [hu] at h ⊢
    simp only [if_true] at h ⊢
    split at h
    rotate_left
    ·cases h
    rename_i hc
    rw [if_pos hc]
    rw [Option.bind_eq_some_iff] at h ⊢
    obtain⟨elems,h1,h2⟩:=h
    rw [Option.map_eq_some_iff] at h2
    obtain⟨rest,h2,h3⟩:=h2
    have el:∀ i y,(W.cells? 0 (a.add (i * P.cellsOf e)) (P.cellsOf e)).bind (DataW.trod enc P W 0 (fun _=>true) held n e)=some y→(W'.cells? 0 (a.add (i * P.cellsOf e)) (P.cellsOf e)).bind (DataW.trod enc P W' 0 sp' held n e)=some y:=by
     intro i y hy
     rw [Option.bind_eq_some_iff] at hy ⊢
     obtain⟨cs',g1,g2⟩:=hy
     exact⟨cs',hk.cells g1,ih _ _ _ _ hs.2 g2⟩
    refine⟨elems,mapM_mono (fun i _ y hy=>el i y hy) h1,?_⟩
    rw [Option.map_eq_some_iff]
    refine⟨rest,?_,h3⟩
    by_cases hd:cap - len=0
    ·rw [hd] at h2 ⊢
     simp at h2
     subst h2
     cases sp' a.block <;> simp
    ·have hb:a.block<W.heap.size:=by
      have hl:=mapM_some_length h2
      rw [List.length_range] at hl
      have:=mapM_some_get h2 0 0 (by rw [List.getElem?_eq_getElem (by simp;omega)];simp)
      rw [List.getElem?_eq_getElem (by omega),Option.bind_eq_some_iff] at this
      obtain⟨cs',g1,_⟩:=this
      obtain⟨c,t',z,g3,_⟩:=cells_take hs.1 g1
      have hblk:(a.add ((len+0) * P.cellsOf e)).block=a.block:=by unfold Addr.add;split <;> rfl
      rw [hblk] at g3
      exact(Array.getElem?_eq_some_iff.1 g3).1
     rw [if_pos (hsp _ hb)]
     exact mapM_mono (fun i _ y hy=>el (len+i) y hy) h2
   | _=>
    have hp:partsOf P t=none:=by simp [partsOf,hu]
    simp [hp,hu,basic] at hs
theorem trodAll_kept (hk:Kept W W') (hsp:∀ b,b<W.heap.size→sp' b=true) (m:Nat):∀ {ts:List TypeId} {vs:List Value} {ds:List (DataW H)} {ps:List MemPlace},ts.all (supp P m)=true→DataW.TrodAll enc P W 0 (fun _=>true) held ts vs ds ps→DataW.TrodAll enc P W' 0 sp' held ts vs ds ps
 | [],[],[],ps,_,h=>h
 | t::ts,v::vs,d::ds,ps,hs,h=>by
  simp only [List.all_cons,Bool.and_eq_true] at hs
  obtain⟨p,q,⟨fuel,h1⟩,h2,h3⟩:=h
  exact⟨p,q,⟨fuel,trod_kept hk hsp m _ _ _ _ hs.1 h1⟩,trodAll_kept hk hsp m hs.2 h2,h3⟩
 | [],[],_::_,ps,_,h=>by simp [DataW.TrodAll] at h
 | [],_::_,_,ps,_,h=>by simp [DataW.TrodAll] at h
 | _::_,[],_,ps,_,h=>by simp [DataW.TrodAll] at h
 | _::_,_::_,[],ps,_,h=>by simp [DataW.TrodAll] at h
def ArgT (P:Program) (m:Nat) (t:TypeId) (x:PV):Prop:=match partsOf P t with
 | some _=>∃ xs,x=.agg xs∧TyT P m t xs
 | none=>TyT P m t [x]
def ArgsT (P:Program) (m:Nat):List TypeId→List PV→Prop
 | [],xs=>xs=[]
 | t::ts,xs=>∃ x r,xs=x::r∧ArgT P m t x∧ArgsT P m ts r
def fzOf (W:World):Fzn:=fun b=>match W.heap[b]? with
 | some (.cells c _ _)=>some c.toList
 | _=>none
theorem fzOf_all (W:World):AllCells (fzOf W) W:=fun b c t z h=>by simp [fzOf,h]
theorem fzOf_some {b:Nat} {arr:List Value} (h:fzOf W b=some arr):∃ c t z,W.heap[b]?=some (.cells c t z)∧arr=c.toList:=by
 unfold fzOf at h
 split at h
 ·rename_i c t z hb
  injection h with h
  exact⟨c,t,z,hb,h.symm⟩
 ·cases h
theorem arg_of {m:Nat} {base:Nat} {t:TypeId} {v:Value} {d:DataW H} {ps:List MemPlace} (hs:supp P m t=true) (hval:Value.okWide P W .any base t v) (h:DataW.Trod enc P W 0 (fun _=>true) true t v d ps):∃ x,VP (fzOf W) x v∧ArgT P m t x:=by
 obtain⟨fuel,h⟩:=h
 obtain⟨xs,h1,h2,h3⟩:=typed_of_trod (fzOf_all W) m t fuel _ _ hs h
 unfold Value.okWide at hval
 cases hp:partsOf P t with
 | some l=>
  have:∃ cs,v=.agg cs:=by
   unfold partsOf at hp
   split at hp
   ·rename_i fs hu;simp only [hu] at hval;obtain⟨cs,h,_⟩:=hval;exact⟨cs,h⟩
   ·rename_i k e hu;simp only [hu] at hval;obtain⟨cs,h,_⟩:=hval;exact⟨cs,h⟩
   ·cases hp
  obtain⟨cs,rfl⟩:=this
  exact⟨.agg xs,by simp only [VP];exact⟨cs,rfl,h1⟩,by simp only [ArgT,hp];exact⟨xs,rfl,h3⟩⟩
 | none=>
  have hv:v.cells=#[v]:=by
   cases m with
   | zero=>simp [supp] at hs
   | succ m=>
    simp only [supp,hp] at hs
    cases hu:P.underlying t with
    | none=>simp [hu] at hs
    | some d=>
     simp only [hu] at hs hval
     cases d with
     | struct fs=>simp [partsOf,hu] at hp
     | array k e=>simp [partsOf,hu] at hp
     | bool=>cases v <;> simp_all [Cell.okWide,Cell.ok,Value.cells]
     | int k=>cases v <;> simp_all [Cell.okWide,Cell.ok,Value.cells]
     | string=>cases v <;> simp_all [Cell.okWide,Cell.ok,Value.cells]
     | slice e=>cases v <;> simp_all [Cell.okWide,Cell.ok,Value.cells]
     | _=>simp [basic] at hs
  rw [hv] at h1
  obtain⟨x,rfl,h4⟩:∃ x,xs=[x]∧VP (fzOf W) x v:=by
   match xs,h1 with
   | [],h1=>simp [VPL] at h1
   | x::r,h1=>
    simp only [VPL] at h1
    obtain⟨u,us,e,g1,g2⟩:=h1
    simp only [List.cons.injEq] at e
    obtain⟨rfl,rfl⟩:=e
    match r,g2 with
    | [],_=>exact⟨x,rfl,g1⟩
    | y::r,g2=>simp [VPL] at g2
  exact⟨x,h4,by simp only [ArgT,hp];exact h3⟩
theorem args_of {m base:Nat}:∀ {ts:List TypeId} {vs:List Value} {ds:List (DataW H)} {ps:List MemPlace},ts.all (supp P m)=true→(∀ (j:Nat) t v,ts[j]?=some t→vs[j]?=some v→Value.okWide P W .any base t v)→DataW.TrodAll enc P W 0 (fun _=>true) true ts vs ds ps →
  ∃ xs,VPL (fzOf W) xs vs∧ArgsT P m ts xs∧ds.length=ts.length
 | [],[],[],ps,_,_,_=>⟨[],by simp [VPL],rfl,rfl⟩
 | t::ts,v::vs,d::ds,ps,hs,hv,h=>by
  simp only [List.all_cons,Bool.and_eq_true] at hs
  obtain⟨p,q,h1,h2,h3⟩:=h
  obtain⟨x,g1,g2⟩:=arg_of hs.1 (hv 0 t v rfl rfl) h1
  obtain⟨xs,k1,k2,k3⟩:=args_of hs.2 (fun j t v ht hv'=>hv (j+1) t v ht hv') h2
  exact⟨x::xs,by simp only [VPL];exact⟨v,vs,rfl,g1,k1⟩,⟨x,xs,rfl,g2,k2⟩,by simp [k3]⟩
 | [],[],_::_,ps,_,_,h=>by simp [DataW.TrodAll] at h
 | [],_::_,_,ps,_,_,h=>by simp [DataW.TrodAll] at h
 | _::_,[],_,ps,_,_,h=>by simp [DataW.TrodAll] at h
 | _::_,_::_,[],ps,_,_,h=>by simp [DataW.TrodAll] at h
end
def gtOK (P:Program) (m:Nat):List (Nat × List PV)→List (String × DataW Unit)→Prop
 | [],_=>True
 | (g,cs)::r,(n,d)::r'=>P.globalNamed n=some g∧(∃ t,(P.globals[g]?).map (·.type)=some t∧supp P m t=true)∧flatD d=some cs∧gtOK P m r r'
 | _::_,[]=>False
theorem glob_of_laid {P:Program} {m:Nat} {W:World}:∀ {gt:List (Nat × List PV)} {laid:List (String × DataW Unit)} {ps:List MemPlace},gtOK P m gt laid→DataW.LaidVars P W laid ps→∀ g cs,gget gt g=some cs→GlobV (fzOf W) g cs
 | [],_,_,_,_,g,cs,h=>by simp [gget] at h
 | (g',cs')::r,[],_,hg,_,g,cs,h=>by simp [gtOK] at hg
 | (g',cs')::r,(n,d)::r',ps,hg,hl,g,cs,h=>by
  obtain⟨h1,⟨t,h2,h3⟩,h4,h5⟩:=hg
  obtain⟨g0,t0,cs0,fuel,p,q,k1,k2,k3,k4,k5,k6⟩:=hl
  rw [h1] at k1
  injection k1 with k1
  subst k1
  rw [h2] at k2
  injection k2 with k2
  subst k2
  simp only [gget] at h
  split at h
  ·rename_i he
   have he:=Nat.eq_of_beq_eq_true he
   subst he
   injection h with h
   subst h
   obtain⟨g1,g2⟩:=laid_of_trod (fz:=fzOf W) m t fuel _ _ _ h3 k4 h4
   have hb:∃ ty z,W.heap[g']?=some (.cells cs0 ty z):=by
    unfold World.var? at k3
    rw [h1] at k3
    simp only [Option.bind_some] at k3
    split at k3
    ·rename_i c ty z hb
     injection k3 with k3
     subst k3
     exact⟨ty,z,hb⟩
    ·cases k3
   obtain⟨ty,z,hb⟩:=hb
   exact⟨by simp only [VP];exact⟨g',0,cs0.toList,cs0.toList,rfl,fzOf_all W _ _ _ _ hb,g1,[],[],by simp,rfl,g2⟩,cs0.toList,fzOf_all W _ _ _ _ hb,VPL_length g1⟩
  ·exact glob_of_laid h5 k5 g cs h
section
variable {cx:Cx}
theorem calls_of_pure {H:Type} {enc:TypeId × Value→H} {W:World} {f:FuncId} {fn:Func} {c:Code} {m base:Nat} {args:Array Value} {ds:List (DataW H)} {ps:List MemPlace}
  (hf : cx.P.funcs[f]? = some fn) (hname : (fn.name == "runtime.NumGoroutine") = false) (hb : fn.body = some c) (hs : fn.params.toList.all (supp cx.P m) = true)
  (hpure:∀ xs,ArgsT cx.P m fn.params.toList xs→Pure cx f xs (·=.ret [.bool true]))
  (hval:∀ (j:Nat) t v,fn.params[j]?=some t→args[j]?=some v→Value.okWide cx.P W .any base t v)
  (hA:DataW.TrodAll enc cx.P W 0 (fun _=>true) true fn.params.toList args.toList ds ps)
  (hglob:∀ g cs,gget cx.gt g=some cs→GlobV (fzOf W) g cs) :
  Calls cx.P f args W fun e W'=>e=.returned (.bool true)∧W'.os=W.os∧W'.output=W.output∧∀ k,k<W.heap.size→W'.heap[k]?=W.heap[k]?:=by
 obtain⟨xs,h1,h2,_⟩:=args_of hs (fun j t v ht hv=>hval j t v (by simpa using ht) (by simpa using hv)) hA
 have hR:R cx ⟨fun _=>none,fzOf W⟩ ⟨0,[]⟩ W:=by
  refine⟨hglob,fun _ _=>rfl,fun b arr hb=>?_,fun n o hn=>by simp [lget] at hn,fun n o q hn=>by simp [lget] at hn,fun n o m p q q' hn=>by simp [lget] at hn⟩
  obtain⟨c,t,z,g1,rfl⟩:=fzOf_some hb
  exact⟨t,z,g1⟩
 have key:∀ e w',Post cx ⟨fun _=>none,fzOf W⟩ ⟨0,[]⟩ W (EndP (·=.ret [.bool true])) e w'→e=.returned (.bool true)∧w'.os=W.os∧w'.output=W.output∧∀ k,k<W.heap.size→w'.heap[k]?=W.heap[k]?:=by
  intro e w' hP
  obtain⟨r,Γ',hq,_,hE,_,hT,_⟩:=pure_post hR hP
  subst hq
  obtain⟨v',rfl,hv⟩:=hE
  simp only [VR,VP] at hv
  subst hv
  exact⟨rfl,hT.os,hT.output,fun k hk=>hT.kept k hk own_nil⟩
 have hrun:=run_enter hf hname hb args W
 rcases hpure xs h2 ⟨fun _=>none,fzOf W⟩ W args.toList hR (VRL_p.2 h1) with ⟨_,h4⟩ | ⟨v',w',h4,_⟩
 ·exact h4.mono key
 ·rw [hrun] at h4
  injection h4 with h4
  cases h4
theorem post_of_kept {H:Type} {enc:TypeId × Value→H} {W W':World} {fn:Func} {s:ChangeSpec} {m:Nat} {bt:TypeId} {apart fresh handsOn:Bool} {args:Array Value} {ds gs:List (DataW H)} {before:List MemPlace}
  (hs:fn.params.toList.all (supp cx.P m)=true) (hvars:s.vars=[]) (hres:fn.resultTypes=#[bt]) (hbt:cx.P.underlying bt=some .bool)
  (hfn:∀ ds:List (DataW H),ds.length=fn.params.toList.length→s.fn H ds={ results:=[.lit (.bool true)],args:=ds })
  (hW:DataW.Whole enc cx.P fn.params.toList s.vars apart W args.toList ds gs before) (hlen:ds.length=fn.params.toList.length)
  (hos:W'.os=W.os) (hout:W'.output=W.output) (hkept:∀ k,k<W.heap.size→W'.heap[k]?=W.heap[k]?) :
  s.post enc cx.P fn apart fresh handsOn false W args (.bool true) W':=by
 have hk:Kept W W':=fun b o hb=>by rw [hkept b (Array.getElem?_eq_some_iff.1 hb).1];exact hb
 have hW':=hW
 obtain⟨p,q,h1,h2,_,_,_⟩:=hW'
 rw [hvars] at h2
 obtain⟨rfl,rfl⟩:=Go.ChangeShapes.trodVars_none h2
 have e:s.fn H (ds++[])={ results:=[.lit (.bool true)],args:=ds }:=by rw [List.append_nil];exact hfn ds hlen
 refine⟨ds,[],before,[],p,[],hW,?_,?_,?_,?_,fun h=>by cases h⟩
 ·rw [e,hres]
  exact Go.ChangeShapes.trodAll_mk1 (Go.RowKit.shut_bool hbt true)
 ·rw [e]
  exact trodAll_kept hk (fun b hb=>by simpa using hb) m hs h1
 ·rw [e,hvars]
  rfl
 ·refine⟨hos,hout,fun i hi=>?_⟩
  rw [hkept i hi]
  have:=Array.getElem?_eq_getElem hi
  rw [this]
  cases W.heap[i] <;> simp
end
end Go.Proofs.YtmepdfingcmkmaaGreatDoor.Y
namespace Go.Proofs.YtmepdfingcmkmaaGreatDoor
open Go Y
set_option maxRecDepth 100000
set_option maxHeartbeats 4000000
theorem ty_u8 {m:Nat} {xs:List PV} (h:TyT Tryz.prog (m+1) 5 xs):∃ b:UInt8,xs=[u8 b]:=by
 have hp:partsOf Tryz.prog 5=none:=by simp [partsOf,Tryz.underlying5]
 simp only [TyT,hp,Tryz.underlying5] at h
 obtain⟨n,rfl,hw⟩:=h
 have:=bounds_u8 hw
 refine⟨UInt8.ofNat n.toNat,?_⟩
 have e:((UInt8.ofNat n.toNat).toNat:Int)=n:=by
  simp
  omega
 rw [u8,e]
theorem ty_int {m:Nat} {xs:List PV} (h:TyT Tryz.prog (m+1) 3 xs):∃ n,xs=[i64 n]∧-9223372036854775808≤n∧n≤9223372036854775807:=by
 have hp:partsOf Tryz.prog 3=none:=by simp [partsOf,Tryz.underlying3]
 simp only [TyT,hp,Tryz.underlying3] at h
 obtain⟨n,rfl,hw⟩:=h
 exact⟨n,rfl,bounds_i64 hw⟩
theorem ty_str {m:Nat} {xs:List PV} (h:TyT Tryz.prog (m+1) 9 xs):∃ s,xs=[.str s]∧s.length≤9223372036854775807:=by
 have hp:partsOf Tryz.prog 9=none:=by simp [partsOf,Tryz.underlying9]
 simp only [TyT,hp,Tryz.underlying9] at h
 obtain⟨n,rfl,hl⟩:=h
 exact⟨n,rfl,hl⟩
theorem arg_plain {m:Nat} {t:TypeId} {x:PV} (hp:partsOf Tryz.prog t=none) (h:ArgT Tryz.prog m t x):TyT Tryz.prog m t [x]:=by
 simpa only [ArgT,hp] using h
end Go.Proofs.YtmepdfingcmkmaaGreatDoor
namespace Go.Proofs.YtmepdfingcmkmaaGreatDoor.Y
open Go
section
variable {H:Type} {enc:TypeId × Value→H} {P:Program} {W:World} {sp:Nat→Bool} {held:Bool}
end
section
variable {H:Type} {enc:TypeId × Value→H} {P:Program} {W W':World} {sp':Nat→Bool} {held:Bool}
end
section
variable {cx:Cx}
end
end Go.Proofs.YtmepdfingcmkmaaGreatDoor.Y
namespace Go.Proofs.YtmepdfingcmkmaaGreatDoor
open Go Y
set_option maxRecDepth 100000
set_option maxHeartbeats 4000000
theorem ta_u8:∀ {m:Nat} {xs:List PV},TyT Tryz.prog m 5 xs→∃ b:UInt8,xs=[u8 b]
 | 0,_,h=>h.elim
 | _+1,_,h=>ty_u8 h
theorem ta_int:∀ {m:Nat} {xs:List PV},TyT Tryz.prog m 3 xs→∃ n,xs=[i64 n]∧-9223372036854775808≤n∧n≤9223372036854775807
 | 0,_,h=>h.elim
 | _+1,_,h=>ty_int h
theorem ta_str:∀ {m:Nat} {xs:List PV},TyT Tryz.prog m 9 xs→∃ s,xs=[.str s]∧s.length≤9223372036854775807
 | 0,_,h=>h.elim
 | _+1,_,h=>ty_str h
theorem ta_ref:∀ {m:Nat} {xs:List PV},TyT Tryz.prog m TRef xs→∃ r:Rf,xs=r.cells∧BigR r
 | 0,_,h=>h.elim
 | m+1,xs,h=>by
  have hp:partsOf Tryz.prog TRef=some [(9,0),(3,1),(9,2),(3,3)]:=by kernel_rfl
  rw [TyT] at h
  simp only [hp] at h
  obtain⟨x1,_,rfl,_,h1,x2,_,rfl,_,h2,x3,_,rfl,_,h3,x4,_,rfl,_,h4,rfl⟩:=h
  obtain⟨a,rfl,ha⟩:=ta_str h1
  obtain⟨b,rfl,_⟩:=ta_int h2
  obtain⟨c,rfl,hc⟩:=ta_str h3
  obtain⟨d,rfl,_⟩:=ta_int h4
  exact⟨⟨a,b,c,d⟩,rfl,ha,hc⟩
structure Be where
 what:UInt8
 place:UInt8
 cse:UInt8
 n:Int
 name:List UInt8
 ref:Rf
 cond:Cd
abbrev Be.cells (b:Be):List PV:=[u8 b.what,u8 b.place,u8 b.cse,i64 b.n, .str b.name]++(b.ref.cells++b.cond.cells)
structure Be.ok (b:Be):Prop where
 n:-9223372036854775808≤b.n∧b.n≤9223372036854775807
 name:BigS b.name
 ref:BigR b.ref
 cond:BigC b.cond
set_option maxHeartbeats 40000000
structure Small (d:Nat) (c:Cd) (n:Nat):Prop where
 pos:1≤n
 valid:∀ left,n≤left→condV d c left=some (left - n)
 big:BigC c
 len:(spW true (condT c)).length≤240 * n
theorem leaf_few {op n rel val:Int} {r:Rf} {st:List Int} (hb:leafB op n rel val r st=true) (hs:st.length≤4):(leafT op n rel val r st).length≤21:=by
 unfold leafB at hb
 unfold leafT
 by_cases c6:op=6
 ·rw [if_neg (by omega),if_neg (by omega),if_pos c6] at hb
  simp only [Bool.and_eq_true,decide_eq_true_eq] at hb
  have hr:=ref_toks hb.1.1.1.1.1.1
  rw [if_pos c6]
  simp only [List.length_append,List.length_cons,List.length_nil];omega
 ·rw [if_neg c6]
  by_cases c5:op=5
  ·rw [if_neg (by omega),if_pos c5] at hb
   simp only [Bool.and_eq_true,decide_eq_true_eq] at hb
   obtain⟨⟨⟨⟨b1,b2⟩,b3⟩,b4⟩,b5⟩:=hb
   rw [if_pos c5]
   have hr:=ref_toks b1
   have hset:=setB_facts b5
   have hs:=sep_toks (f:=fun n=>[digT n]) (b:=1) (l:=st) fun a ha=>⟨allT_cons (tok_dig (hset.2.1 a ha)) allT_nil,by simp⟩
   simp only [List.length_append,List.length_cons,List.length_nil];omega
  ·rw [if_neg c5]
   by_cases c1:op=1∨op=2∨op=3∨op=4
   ·rw [if_pos c1] at hb
    simp only [Bool.and_eq_true,decide_eq_true_eq] at hb
    have hr:=ref_toks hb.1.1.1.1
    simp only [List.length_append,List.length_cons,List.length_nil];omega
   ·rw [if_neg c1,if_neg c5,if_neg c6] at hb
    cases hb
theorem ref_bigB {r:Rf} (h:refB r=true):BigR r:=by
 obtain⟨nm,m,pl,n⟩:=r
 rw [refB,Bool.and_eq_true] at h
 have h1:=name_len h.1
 refine⟨by show nm.length≤_;have h1:nm.length≤10:=h1;omega,?_⟩
 have h2:=h.2
 simp only [] at h2
 show pl.length≤_
 split at h2
 ·simp only [Bool.and_eq_true,decide_eq_true_eq] at h2
  rw [h2.1];simp
 ·split at h2
  ·simp only [Bool.and_eq_true] at h2
   have:=name_len h2.1
   omega
  ·split at h2
   ·simp only [Bool.and_eq_true,decide_eq_true_eq] at h2
    rw [h2.1];simp
   ·cases h2
theorem leafB_ref {op n rel val:Int} {r:Rf} {st:List Int} (hb:leafB op n rel val r st=true):refB r=true:=(leafB_facts hb).1
theorem leaf_small {op n rel val:Int} {r:Rf} {st:List Int} (h7:¬ op=7) (h8:¬ op=8) (h9:¬ op=9) (hb:leafB op n rel val r st=true) (hs:st.length≤4) (d:Nat):Small (d+1) (.mk op n rel val r st []) 1:=by
 refine⟨Nat.le_refl _,fun left hl=>?_,big_leaf (ref_bigB (leafB_ref hb)) (by omega),?_⟩
 ·rw [condV,if_neg (by omega),if_pos]
  ·rfl
  ·have h0:argsN op=0:=by rw [argsN,if_neg h7,if_neg (by omega)]
   rw [headB,if_pos h0,hb];rfl
 ·rw [condT_leaf h7 h8 h9]
  have h1:=leaf_few hb hs
  have h2:=spW_len true (leaf_toks hb).1
  omega
theorem len_in (k:Nat) (p:Int × Toks):(spW true (inT k p)).length≤(spW true p.2).length+4:=by
 unfold inT
 split
 ·show(spW true ([tLP]++(p.2++[tRP]))).length≤_
  rw [spW_t,spW_t]
  simp [spW]
 ·omega
theorem two_small {d na nb:Nat} {a b:Cd} {op:Int} (ho:op=8∨op=9) (ha:Small d a na) (hb:Small d b nb):Small (d+1) (.mk op 0 0 0 rf0 [] [a,b]) (1+na+nb):=by
 have h1:=ha.pos
 have h2:=hb.pos
 have l1:=ha.len
 have l2:=hb.len
 refine⟨by omega,fun left hl=>?_,big_two ha.big hb.big,?_⟩
 ·rw [condV,if_neg (by omega),if_pos]
  ·show(do
    let l ← condV d a (left - 1)
    let l ← condV d b l
    some l)=_
   rw [ha.valid _ (by omega)]
   show(do
    let l ← condV d b (left - 1 - na)
    some l)=_
   rw [hb.valid _ (by omega)]
   show some _=some _
   congr 1;omega
  ·rcases ho with rfl | rfl <;> rfl
 ·rcases ho with rfl | rfl
  ·rw [condT_conj,spW_t]
   have k1:=len_in 2 (a.op,condT a)
   have k2:=len_in 3 (b.op,condT b)
   simp only [] at k1 k2
   show((spW true (inT 2 (a.op,condT a)))++spW true ([tAnd]++inT 3 (b.op,condT b))).length≤_
   rw [spW_t,List.length_append,List.length_append]
   have k3:(spW true [tAnd]).length=4:=rfl
   omega
  ·rw [condT_disj,spW_t]
   have k1:=len_in 1 (a.op,condT a)
   have k2:=len_in 2 (b.op,condT b)
   simp only [] at k1 k2
   show((spW true (inT 1 (a.op,condT a)))++spW true ([tOr]++inT 2 (b.op,condT b))).length≤_
   rw [spW_t,List.length_append,List.length_append]
   have k3:(spW true [tOr]).length=3:=rfl
   omega
theorem neg_small {d na:Nat} {a:Cd} (ha:Small d a na):Small (d+1) (.mk 7 0 0 0 rf0 [] [a]) (1+na):=by
 have h1:=ha.pos
 have l1:=ha.len
 refine⟨by omega,fun left hl=>?_,big_one ha.big,?_⟩
 ·rw [condV,if_neg (by omega),if_pos]
  ·show(do
    let l ← condV d a (left - 1)
    some l)=_
   rw [ha.valid _ (by omega)]
   show some _=some _
   congr 1;omega
  ·rfl
 ·rw [condT_neg]
  have k1:=len_in 3 (a.op,condT a)
  simp only [] at k1
  show(spW true ([tNot]++inT 3 (a.op,condT a))).length≤_
  rw [spW_t,List.length_append]
  have k3:(spW true [tNot]).length=4:=rfl
  omega
abbrev withD (c:Cd):De:=⟨5,0,[],[],[],[⟨c,[1]⟩,⟨cd0,[-1,0]⟩]⟩
set_option maxHeartbeats 4000000
def isLP (t:List UInt8):Nat:=if t=tLP then 1 else 0
def lpP (ws:List Wd):Nat→Nat
 | 0=>0
 | q+1=>lpP ws q+isLP (txt ws q)
def pn (k:Nat) (p:Int × Nat):Nat:=p.2+if lvl p.1<k then 1 else 0
def cpJ (op:Int) (ps:List (Int × Nat)):Nat:=
 if op=9 then pn 1 (ps.getD 0 (0,0))+pn 2 (ps.getD 1 (0,0)) else if op=8 then pn 2 (ps.getD 0 (0,0))+pn 3 (ps.getD 1 (0,0)) else if op=7 then pn 3 (ps.getD 0 (0,0)) else if op=6 then 1 else 0
mutual
def cp:Cd→Nat
 | .mk op _ _ _ _ _ ar=>cpJ op (cpL ar)
def cpL:List Cd→List (Int × Nat)
 | []=>[]
 | c::r=>(c.op,cp c)::cpL r
end
def pin (k:Nat) (c:Cd):Nat:=pn k (c.op,cp c)
structure CLp (ws:List Wd) (F:Nat):Prop where
 cond:∀ {q c q'},condR ws F q=.inr (c,q')→lpP ws q+pin 1 c≤lpP ws q'
 orr:∀ {d q c q'},orR ws F d q=.inr (c,q')→∀ s,s+pin 1 d≤lpP ws q→s+pin 1 c≤lpP ws q'
 conj:∀ {q c q'},conjR ws F q=.inr (c,q')→lpP ws q+pin 2 c≤lpP ws q'
 andr:∀ {d q c q'},andR ws F d q=.inr (c,q')→∀ s,s+pin 2 d≤lpP ws q→s+pin 2 c≤lpP ws q'
 neg:∀ {q c q'},negR ws F q=.inr (c,q')→lpP ws q+pin 3 c≤lpP ws q'
 test:∀ {q c q'},testR ws F q=.inr (c,q')→lpP ws q+pin 4 c≤lpP ws q'
def lpT (x:Toks):Nat:=(x.map isLP).sum
def wgh (t:List UInt8):Int:=if t=tLP then 1 else if t=tRP then -1 else 0
def tot (x:Toks):Int:=(x.map wgh).sum
theorem tot_app (x y:Toks):tot (x++y)=tot x+tot y:=by rw [tot,List.map_append,List.sum_append];rfl
structure Bal (x:Toks):Prop where
 all:tot x=0
 pre:∀ n,0≤tot (x.take n)
theorem Bal.app {x y:Toks} (hx:Bal x) (hy:Bal y):Bal (x++y):=by
 refine⟨by rw [tot_app,hx.all,hy.all];rfl,fun n=>?_⟩
 rw [List.take_append,tot_app]
 have:=hx.pre n
 have:=hy.pre (n - x.length)
 omega
def Pl (t:List UInt8):Prop:=t ≠ tLP∧t ≠ tRP
structure CanP (c:Cd):Prop where
 bal:Bal (condT c)
 lp:lpT (condT c)=cp c
def rend1 (x:Toks):List UInt8:=x.flatMap fun t=>t++[32]
set_option maxHeartbeats 40000000
structure WithF (c:Cd):Prop where
 valid:validB [withD c]=true
 all:AllT (declT (withD c))
 num:(declT (withD c)).length≤1500
 txt:(textT [withD c]).length≤8000
 len:(rend1 (declT (withD c))).length≤8000
 can:CanP c
 big:BigP [withD c]
set_option maxHeartbeats 4000000
def lw:Toks→Nat
 | []=>0
 | x::l=>x.length+lw l
theorem lw_cons (t:List UInt8) (x:Toks):lw (t::x)=t.length+lw x:=rfl
theorem lw_n:lw []=0:=rfl
theorem lw_app:∀ a b:Toks,lw (a++b)=lw a+lw b
 | [],b=>by simp [lw]
 | x::a,b=>by rw [List.cons_append,lw,lw,lw_app a b];omega
def nbB (c:UInt8):Bool:=decide (c.toNat ≠ 32) && decide (c.toNat ≠ 10)
def nb (s:List UInt8):Nat:=(s.filter nbB).length
def PLt (p q:Nat × Nat):Prop:=p.1<q.1∨(p.1=q.1∧p.2<q.2)
theorem PLt.trans {p q r:Nat × Nat} (h:PLt p q) (k:PLt q r):PLt p r:=by
 unfold PLt at *;omega
structure WSp (s:List UInt8) (k:Nat) (acc:List Wd):Prop where
 pl:∀ w∈acc,∃ o,o<k∧o≤s.length∧w.line=(at_ s o).1∧w.col=(at_ s o).2
 ne:∀ i j,i<j→j<acc.length→¬ ((wat acc i).line=(wat acc j).line∧(wat acc i).col=(wat acc j).col)
 lw:lw (acc.map Wd.text)≤nb (s.take k)
theorem lw_dig1 {n:Int} (h:n≤9):(digT n).length≤1:=by
 rw [digT,digN,if_pos (by omega)]
 exact Nat.le_refl _
theorem lw_flat {α:Type} {f:α→Toks} {b:Nat}:∀ {l:List α},(∀ a∈l,lw (f a)≤b)→lw (l.flatMap f)≤b * l.length
 | [],_=>Nat.zero_le _
 | a::l,h=>by
  have h1:=h a (List.mem_cons_self ..)
  have h2:=lw_flat (l:=l) fun x hx=>h x (List.mem_cons_of_mem _ hx)
  rw [List.flatMap_cons,lw_app,List.length_cons,Nat.mul_succ];omega
theorem lw_sep {α:Type} {f:α→Toks} {b:Nat}:∀ {l:List α},(∀ a∈l,lw (f a)≤b)→lw (sepT f l)≤(b+1) * l.length
 | [],_=>Nat.zero_le _
 | a::l,h=>by
  have h1:=h a (List.mem_cons_self ..)
  have h2:=lw_flat (l:=l) (f:=fun b=>tComma::f b) (b:=b+1) fun x hx=>by
   have:=h x (List.mem_cons_of_mem _ hx)
   simp only [lw_cons,List.length_cons,List.length_nil];omega
  show lw (f a++l.flatMap fun b=>tComma::f b)≤_
  rw [lw_app,List.length_cons,Nat.mul_succ];omega
structure RfS (r:Rf):Prop where
 ok:refB r=true
 nm:r.name.length=1
 pl:r.plate.length≤1
 n:r.n≤9
theorem lw_tail {r:Rf} (h:r.plate.length≤1) (hn:r.n≤9):lw (tailT r)≤5:=by
 have h1:=lw_dig1 hn
 unfold tailT
 split
 ·decide
 ·split
  ·simp only [lw_cons,lw_n,List.length_cons,List.length_nil];omega
  ·split
   ·split <;> simp only [lw_cons,lw_n,List.length_cons,List.length_nil] <;> omega
   ·exact Nat.zero_le _
theorem lw_ref {r:Rf} (h:RfS r):lw (refT r)≤6:=by
 have h1:=lw_tail h.pl h.n
 have h2:=h.nm
 rw [refT,lw_cons];omega
theorem lw_rel (k:Int):(relT k).length≤2:=by
 unfold relT
 split
 ·decide
 ·split
  ·decide
  ·split <;> decide
theorem lw_leaf {op n rel val:Int} {r:Rf} {st:List Int} (h:RfS r) (hn:n≤9) (hv:val≤9) (hs:st.length≤2∧∀ a∈st,a≤9):lw (leafT op n rel val r st)≤18:=by
 have h0:=lw_ref h
 have h1:=lw_dig1 hn
 have h2:=lw_dig1 hv
 have h3:=lw_rel rel
 have h4:=lw_rel op
 have h5:=lw_sep (f:=fun n=>[digT n]) (b:=1) (l:=st) fun a ha=>by
  have:=lw_dig1 (hs.2 a ha)
  simp only [lw_cons,lw_n];omega
 have hs1:=hs.1
 unfold leafT
 split
 ·simp only [lw_app,lw_cons,lw_n,List.length_cons,List.length_nil];omega
 ·split
  ·simp only [lw_app,lw_cons,lw_n,List.length_cons,List.length_nil];omega
  ·simp only [lw_app,lw_cons,lw_n];omega
structure CdS (d:Nat) (c:Cd) (n k:Nat):Prop where
 sm:Small d c n
 wt:lw (condT c)≤k
theorem CdS.leaf {op n rel val:Int} {r:Rf} {st:List Int} (h7:¬ op=7) (h8:¬ op=8) (h9:¬ op=9) (hb:leafB op n rel val r st=true) (hr:RfS r) (hn:n≤9) (hv:val≤9) (hs:st.length≤2∧∀ a∈st,a≤9) (d:Nat):CdS (d+1) (.mk op n rel val r st []) 1 18:=
 ⟨leaf_small h7 h8 h9 hb (by have:=hs.1;omega) d,by rw [condT_leaf h7 h8 h9];exact lw_leaf hr hn hv hs⟩
theorem lw_in (k:Nat) (p:Int × Toks):lw (inT k p)≤lw p.2+2:=by
 unfold inT
 split
 ·simp only [lw_app,lw_cons,lw_n,List.length_cons,List.length_nil];omega
 ·omega
theorem CdS.neg {d n k:Nat} {a:Cd} (ha:CdS d a n k):CdS (d+1) (.mk 7 0 0 0 rf0 [] [a]) (1+n) (k+5):=by
 refine⟨neg_small ha.sm,?_⟩
 rw [condT_neg]
 have h1:=ha.wt
 have h2:=lw_in 3 (a.op,condT a)
 simp only [] at h2
 show lw (tNot::inT 3 (a.op,condT a))≤_
 rw [lw_cons]
 simp only [List.length_cons,List.length_nil];omega
theorem CdS.two {d na nb ka kb:Nat} {a b:Cd} {op:Int} (ho:op=8∨op=9) (ha:CdS d a na ka) (hb:CdS d b nb kb):CdS (d+1) (.mk op 0 0 0 rf0 [] [a,b]) (1+na+nb) (ka+kb+7):=by
 refine⟨two_small ho ha.sm hb.sm,?_⟩
 have h1:=ha.wt
 have h2:=hb.wt
 rcases ho with rfl | rfl
 ·rw [condT_conj]
  have k1:=lw_in 2 (a.op,condT a)
  have k2:=lw_in 3 (b.op,condT b)
  simp only [] at k1 k2
  show lw (inT 2 (a.op,condT a)++(tAnd::inT 3 (b.op,condT b)))≤_
  rw [lw_app,lw_cons]
  simp only [List.length_cons,List.length_nil];omega
 ·rw [condT_disj]
  have k1:=lw_in 1 (a.op,condT a)
  have k2:=lw_in 2 (b.op,condT b)
  simp only [] at k1 k2
  show lw (inT 1 (a.op,condT a)++(tOr::inT 2 (b.op,condT b)))≤_
  rw [lw_app,lw_cons]
  simp only [List.length_cons,List.length_nil];omega
theorem CdS.le {d n k k':Nat} {a:Cd} (h:CdS d a n k) (hk:k≤k'):CdS d a n k':=⟨h.sm,Nat.le_trans h.wt hk⟩
structure NuS (l:List Int):Prop where
 ok:numsB l=true
 wt:lw (numsT l)≤6
theorem NuS.len {l:List Int} (h:NuS l):l.length≤8:=by
 have:=h.ok
 simp only [numsB,Bool.and_eq_true,decide_eq_true_eq] at this
 exact this.1.2
structure CsS (c:Cs):Prop where
 cd:∃ n,n≤3∧CdS 8 c.cond n 43
 nu:NuS c.nums
structure LsS (c:Cs):Prop where
 cd:c.cond=cd0
 nu:NuS c.nums
structure RuS (l:List Cs):Prop where
 ok:casesB l=true
 wt:lw (ruleT l)≤166
 big:BigL l
structure DeS (d:De) (k:Nat):Prop where
 ok:declB d=true
 big:BigD d
 wt:lw (declT d)≤k
theorem tok_lw:∀ {x:Toks},AllT x→x.length≤lw x
 | [],_=>Nat.le_refl _
 | t::x,h=>by
  have h1:=(tok_len (h t (List.mem_cons_self ..))).1
  have h2:=tok_lw (x:=x) fun u hu=>h u (List.mem_cons_of_mem _ hu)
  rw [lw_cons,List.length_cons];omega
theorem spW_lw:∀ x:Toks,(spW true x).length≤lw x+x.length
 | []=>Nat.le_refl _
 | t::x=>by
  have:=spW_lw x
  show([32]++(t++spW true x)).length≤_
  simp only [List.length_append,List.length_cons,List.length_nil,lw_cons];omega
structure PrS (ds:List De) (k:Nat):Prop where
 ok:∀ d∈ds,declB d=true∧BigD d
 wt:lw (ds.flatMap declT)≤k
theorem PrS.nil:PrS [] 0:=⟨fun d hd=>(by cases hd),Nat.le_refl _⟩
theorem PrS.le {ds:List De} {k k':Nat} (h:PrS ds k) (hk:k≤k'):PrS ds k':=⟨h.ok,Nat.le_trans h.wt hk⟩
theorem text_lw:∀ ds:List De,(textT ds).length≤lw (ds.flatMap declT)+cntT ds
 | []=>Nat.le_refl _
 | d::ds=>by
  have h1:=text_lw ds
  have h2:=spW_lw (declT d)
  rw [spW_tf (decl_ne d),List.length_cons] at h2
  have h3:cntT (d::ds)=(declT d).length+cntT ds:=rfl
  show((spW false (declT d)++[10])++textT ds).length≤_
  rw [List.flatMap_cons,lw_app,h3]
  simp only [List.length_append,List.length_cons,List.length_nil];omega
theorem decls_all {ds:List De} (h:∀ d∈ds,declB d=true):AllT (ds.flatMap declT):=fun t ht=>by
 obtain⟨d,hd,ht⟩:=List.mem_flatMap.1 ht
 exact(decl_toks (h d hd)).1 t ht
structure DrP (ds:List De):Prop where
 valid:validB ds=true
 big:BigP ds
 txt:(textT ds).length≤2600
 cnt:cntT ds≤1300
 lw:lw (ds.flatMap declT)≤1300
theorem PrS.fin {ds:List De} {k:Nat} (h:PrS ds k) (hl:ds.length≤30) (hk:k≤1300):DrP ds:=by
 have h1:=text_lw ds
 have h2:=h.wt
 have h3:=tok_lw (decls_all fun d hd=>(h.ok d hd).1)
 rw [flat_len] at h3
 refine⟨?_,⟨by omega,fun d hd=>(h.ok d hd).2⟩,by omega,by omega,by omega⟩
 rw [validB,decide_eq_true hl,List.all_eq_true.2 fun d hd=>(h.ok d hd).1];rfl
structure Pc where
 w:UInt8
 o:UInt8
 n:UInt8
 m:UInt8
 x:UInt8
 y:UInt8
 z:UInt8
abbrev Pc.cells (p:Pc):List PV:=[u8 p.w,u8 p.o,u8 p.n,u8 p.m,u8 p.x,u8 p.y,u8 p.z]
structure Wgt (l:List Int) (k:Nat):Prop where
 len:l.length=k
 bd:∀ x∈l,0≤x∧x≤12
theorem lw_int {n:Int} (h:0≤n∧n≤12):lw (intT n)≤2:=by
 rw [intT,if_neg (by omega),lw_cons,lw_n,digT,digN]
 split
 ·exact Nat.le_succ_of_le (Nat.le_refl _)
 ·rw [digN,if_pos (by omega)]
  exact Nat.le_refl _
theorem Wgt.nu {l:List Int} {k:Nat} (h:Wgt l k) (hk:k=2∨k=3):NuS l:=by
 have h1:=h.len
 refine⟨?_,?_⟩
 ·rw [numsB,decide_eq_true (by omega),decide_eq_true (by omega),List.all_eq_true.2]
  ·rfl
  ·intro x hx
   have:=h.bd x hx
   rw [wgtB,decide_eq_true (by omega),decide_eq_true (by omega)];rfl
 ·have:=lw_flat (f:=intT) (b:=2) (l:=l) fun x hx=>lw_int (h.bd x hx)
  rw [numsT];omega
set_option maxHeartbeats 40000000
structure Pt where
 kind:UInt8
 card:UInt8
 frm:UInt8
 modes:UInt8
 pl:Bool
 cases:List Pc
 x:UInt8
 y:UInt8
 z:UInt8
abbrev Pt.cells (p:Pt):List PV:=[u8 p.kind,u8 p.card,u8 p.frm,u8 p.modes, .bool p.pl, .lsts 7 (p.cases.map Pc.cells),u8 p.x,u8 p.y,u8 p.z]
structure Kn where
 nm:List UInt8
 card:Int
 pl:Bool
abbrev Kn.cells (k:Kn):List PV:=[.str k.nm,i64 k.card, .bool k.pl]
structure KnS (k:Kn):Prop where
 ok:nameN k.nm=true
 len:k.nm.length=1
 card:k.card=2∨k.card=3
structure RcS (rs:List Rf) (cs:List Int):Prop where
 refs:∀ r∈rs,RfS r
 nums:∀ c∈cs,c=2∨c=3
 eq:rs.length=cs.length
 len:rs.length≤2
structure RcA (rs:List Rf) (cs:List Int):Prop where
 ok:RcS rs cs
 pos:1≤rs.length
theorem wrap_u8' {n:Nat} (h:n<256):(n:Int)=IntKind.u8.wrap (n:Int):=by
 show(n:Int)=(n:Int) % 256
 omega
theorem vdraw_otEx {C : Cx} {rd : Bool} {n0 N : Nat} {all : List Oper} {σ : Sg} {ds : List AD} {H : Hp} {K : Sg → List AD → Hp → Prop} {X : List AP → Sg → List AD → Hp → Prop} {α : Type} (sl : α → List (Nat × AV)) (hp : α → Hp) (pr : α → Prop) (ot : OT)
    (h : (C.P.follows .mixedOrders && slotsOK N all (masks all []) && otOK all (masks all []) ot [] [] []) = true)
    (hv : vD C rd all σ (fun σ' ds' H' => ∃ x, pr x ∧ Ent C n0 N σ' ds' H' (sets (fun _ => .junk) (sl x)) ds (hp x)) X ot [] ds H) (hk : ∀ x, pr x → K (sets (fun _ => .junk) (sl x)) ds (hp x)) :
    ∃ ot, (C.P.follows .mixedOrders && slotsOK N all (masks all []) && otOK all (masks all []) ot [] [] []) = true ∧
    ((vD C rd all σ K X ot [] ds H) ∨
     ∃ (α : Type) (sl : α → List (Nat × AV)) (hp : α → Hp) (pr : α → Prop),
      vD C rd all σ (fun σ' ds' H' => ∃ x, pr x ∧ Ent C n0 N σ' ds' H' (sets (fun _ => .junk) (sl x)) ds (hp x)) X ot [] ds H ∧
      ∀ x, pr x → K (sets (fun _ => .junk) (sl x)) ds (hp x)) := ⟨_, h, .inr ⟨α, sl, hp, pr, hv, hk⟩⟩
structure GrS (k:Nat) (g:Int):Prop where
 ok:(k=0∧g=0)∨((k=2∨k=3)∧1≤g∧g≤12)
structure OutS (out:List Cs) (i:Nat):Prop where
 cs:∀ c∈out,CsS c
 len:out.length≤i
structure Dp where
 grain:UInt8
 plate:UInt8
 nodes:List Pt
 choice:Pt
 gains:List Pt
 chooses:Bool
abbrev Dp.cells (d:Dp):List PV:=[u8 d.grain,u8 d.plate, .lsts 9 (d.nodes.map Pt.cells),u8 d.choice.kind,u8 d.choice.card,u8 d.choice.frm,u8 d.choice.modes, .bool d.choice.pl, .lsts 7 (d.choice.cases.map Pc.cells),u8 d.choice.x,u8 d.choice.y,u8 d.choice.z, .lsts 9 (d.gains.map Pt.cells), .bool d.chooses]
structure Dp.ok (d:Dp):Prop where
 nodes:d.nodes.length≤9223372036854775807
 gains:d.gains.length≤9223372036854775807
 ncases:∀ p∈d.nodes,p.cases.length≤9223372036854775807
 gcases:∀ p∈d.gains,p.cases.length≤9223372036854775807
structure PgS (Y:List (List PV)) (n k:Nat):Prop where
 ds:∃ ds:List De,NilDLL Y (ds.map De.cells)∧PrS ds k∧ds.length=n
theorem PgS.len {Y:List (List PV)} {n k:Nat} (h:PgS Y n k):Y.length=n:=by
 obtain⟨ds,h1,_,h3⟩:=h.ds
 have:=h1.len
 rw [List.length_map] at this
 omega
theorem PgS.le {Y:List (List PV)} {n k k':Nat} (h:PgS Y n k) (hk:k≤k'):PgS Y n k':=by
 obtain⟨ds,h1,h2,h3⟩:=h.ds
 exact⟨ds,h1,h2.le hk,h3⟩
structure LkS (l:List Kn) (i:Nat):Prop where
 ok:∀ k∈l,KnS k
 len:l.length=i
structure SdP (d:De) (k:Nat):Prop where
 big:BigD d
 refs:d.refs.length≤k
 cases:d.cases.length≤k
 nums:∀ c∈d.cases,c.nums.length≤k
structure SzP (ds:List De) (k:Nat):Prop where
 len:ds.length≤k
 decl:∀ d∈ds,SdP d k
theorem SdP.mono {d:De} {k m:Nat} (h:SdP d k) (hm:k≤m):SdP d m:=⟨h.big,Nat.le_trans h.refs hm,Nat.le_trans h.cases hm,fun c hc=>Nat.le_trans (h.nums c hc) hm⟩
end Go.Proofs.YtmepdfingcmkmaaGreatDoor
