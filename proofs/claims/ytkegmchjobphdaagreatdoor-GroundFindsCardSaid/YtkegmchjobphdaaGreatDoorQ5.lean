/- Part 5 of the proof: Dd Ia Df Ib Ic Id Ie If Ig Ih Ii Dg De Dh Dj Ij Wa Wb Wc Wd We Wf Wg Wh -/
import Derived.Test.YtkegmchjobphdaaGreatDoorQ4
namespace Go.Proofs.YtkegmchjobphdaaGreatDoor
open Go Y
set_option maxRecDepth 100000
set_option maxHeartbeats 4000000
theorem sizeG_fst {pl:List UInt8} {u:De}:∀ {l:List De},fstV l pl=some u→u.kind=2→sizeG l pl=u.n
 | [],h,_=>by rw [fstV_find] at h;cases h
 | d::r,h,hk=>by
  rw [fstV_find,List.find?_cons] at h
  rw [sizeG]
  by_cases hn:d.name=pl
  ·rw [decide_eq_true hn] at h
   have h:some d=some u:=h
   injection h with h
   subst h
   rw [if_pos ⟨hk,hn⟩]
  ·rw [decide_eq_false hn] at h
   rw [if_neg (fun e=>hn e.2)]
   exact sizeG_fst (by rw [fstV_find];exact h) hk
theorem refsI_zero {l:List De} {d:De}:∀ {rs done:List Rf},refsI l d done rs=[]→∀ r∈rs,refI l d r=0
 | x::rs,done,h,r,hr=>by
  rw [refsI] at h
  have h1:=(List.append_eq_nil_iff.1 h).2
  have h2:=List.append_eq_nil_iff.1 h1
  rcases List.mem_cons.1 hr with rfl | hr
  ·exact note_nil.1 h2.1
  ·exact refsI_zero h2.2 r hr
theorem oneI_refs {l:List De} {d:De} {g:Int} (ho:OkD d) (hr2:d.kind=2→d.refs=[]) (hr1:d.kind=1→d.refs=[]) (h:oneI l d g=[]):∀ r∈d.refs,refI l d r=0:=by
 intro r hr
 have hk:=ho.kind
 unfold oneI at h
 rcases hk with hk | hk | hk | hk | hk
 ·rw [hr1 hk] at hr;cases hr
 ·rw [hr2 hk] at hr;cases hr
 ·rw [if_neg (by omega),if_neg (by omega),if_pos hk] at h
  have:=(List.append_eq_nil_iff.1 (List.append_eq_nil_iff.1 (List.append_eq_nil_iff.1 (List.append_eq_nil_iff.1 h).2).2).2).1
  exact refsI_zero this r hr
 ·rw [if_neg (by omega),if_neg (by omega),if_neg (by omega),if_pos hk] at h
  exact refsI_zero (List.append_eq_nil_iff.1 (List.append_eq_nil_iff.1 h).2).2 r hr
 ·rw [if_neg (by omega),if_neg (by omega),if_neg (by omega),if_neg (by omega)] at h
  exact refsI_zero (List.append_eq_nil_iff.1 h).1 r hr
structure FineP (ds:List De):Prop where
 valid:validB ds=true
 clean:allI ds=[]
section
variable {ds:List De} (h:FineP ds)
include h
theorem FineP.one {k:Nat} (hk:k<ds.length):oneI (ds.take k) (ds.getD k de0) (grainI ds)=[]:=by
 have:=eachI_at ds [] (base_nil h.clean).2.1 k hk
 rwa [List.nil_append] at this
theorem FineP.ok {k:Nat} (hk:k<ds.length):OkD (ds.getD k de0):=((valid_dcs h.valid).2 _ (getD_memL de0 hk)).ok.ok
theorem FineP.size {k:Nat} (hk:k<ds.length) (h3:(ds.getD k de0).kind=3) (hp:¬ (ds.getD k de0).plate=[]):∃ u,fstV (ds.take k) (ds.getD k de0).plate=some u∧u.kind=2∧sizeG ds (ds.getD k de0).plate=u.n∧1≤u.n∧u.n≤6:=by
 obtain⟨u,hu,hk2⟩:=oneI_plate (h.one hk) h3 hp
 have hs:=size_pos (base_nil h.clean).2.1 hk h3 hp
 rw [sizeV,hu] at hs
 simp only [hk2,if_true] at hs
 refine⟨u,hu,hk2,?_,hs⟩
 have:=fstV_app (m:=ds.drop k) hu
 rw [List.take_append_drop] at this
 exact sizeG_fst this hk2
theorem FineP.refs {j:Nat} (hj:j<ds.length) {r:Rf} (hr:r∈(ds.getD j de0).refs):refB r=true∧refI (ds.take j) (ds.getD j de0) r=0:=by
 have hv:=h.valid
 simp only [validB,Bool.and_eq_true] at hv
 have hd:=List.all_eq_true.1 hv.2 _ (getD_memL de0 hj)
 simp only [declB,Bool.and_eq_true] at hd
 refine⟨List.all_eq_true.1 hd.1.2 r hr,oneI_refs (h.ok hj) (fun e=>?_) (fun e=>?_) (h.one hj) r hr⟩
 ·have h2:=hd.2
  unfold kindB at h2
  rw [if_neg (by omega),if_pos e] at h2
  simp only [Bool.and_eq_true,decide_eq_true_eq] at h2
  exact List.eq_nil_of_length_eq_zero h2.1.2
 ·have h2:=hd.2
  unfold kindB at h2
  rw [if_pos e] at h2
  simp only [Bool.and_eq_true,decide_eq_true_eq] at h2
  exact List.eq_nil_of_length_eq_zero h2.1.2
theorem FineP.ref {j:Nat} (hj:j<ds.length) {r:Rf} (hr:r∈(ds.getD j de0).refs):∃ k,k≤j∧((ds.getD k de0).kind=3∨(ds.getD k de0).kind=4)∧(ds.getD k de0).name=r.name ∧
  (r.mode=0∨r.mode=1∨r.mode=2∨r.mode=3)∧0≤r.n∧(r.mode=0→lenG ds (ds.getD k de0)=1)∧(r.mode=2→r.n<(lenG ds (ds.getD k de0):Nat))∧valI (ds.take j) (ds.getD j de0) r=some (ds.getD k de0).n∧(k=j→r.mode=1∧1≤r.n∧(ds.getD j de0).kind=3∧¬ (ds.getD j de0).plate=[])∧r.n≤9999:=by
 obtain⟨hB,hI⟩:=h.refs hj hr
 have hrn:r.name ≠ []:=refB_name hB
 have hmode:(r.mode=0∨r.mode=1∨r.mode=2∨r.mode=3)∧0≤r.n∧r.n≤9999:=by
  simp only [refB,Bool.and_eq_true] at hB
  have hB:=hB.2
  split at hB
  ·rename_i e
   simp only [Bool.and_eq_true,decide_eq_true_eq] at hB
   exact⟨by omega,by omega,by omega⟩
  ·split at hB
   ·rename_i e
    simp only [Bool.and_eq_true,natB,decide_eq_true_eq] at hB
    exact⟨by omega,by omega,by omega⟩
   ·split at hB
    ·rename_i e
     simp only [Bool.and_eq_true,natB,decide_eq_true_eq] at hB
     exact⟨by omega,by omega,by omega⟩
    ·cases hB
 rw [refI] at hI
 cases hf:fstI (ds.take j) r.name with
 | none=>
  rw [fstV,hf] at hI
  simp only [Option.map_none] at hI
  by_cases ho:ownB (ds.getD j de0) r=true
  ·simp only [ownB,Bool.and_eq_true,decide_eq_true_eq] at ho
   refine⟨j,Nat.le_refl _, .inl ho.1,ho.2.2.1.symm,hmode.1,hmode.2.1,fun e=>by omega,fun e=>by omega,?_,fun _=>⟨ho.2.2.2.1,ho.2.2.2.2.2,ho.1,ho.2.1⟩,hmode.2.2⟩
   rw [valI,fstV,hf]
   show(if ownB (ds.getD j de0) r=true then _ else _)=_
   rw [if_pos (by simp only [ownB,Bool.and_eq_true,decide_eq_true_eq];exact ho)]
  ·rw [if_neg ho] at hI;cases hI
 | some k=>
  obtain⟨hkl,hv⟩:=fst_at hf
  have hlt:=fstI_lt hf
  rw [List.length_take] at hlt
  have hkj:k<j:=by omega
  have hnm:(ds.getD k de0).name=r.name:=by rw [← take_getD de0 hkj];exact hlt.2
  rw [hv] at hI
  simp only [] at hI
  have hpl:placeI (ds.take j) (ds.getD j de0) (ds.getD k de0) r=false:=by
   by_cases hp:placeI (ds.take j) (ds.getD j de0) (ds.getD k de0) r=true
   ·rw [if_pos hp] at hI;cases hI
   ·simpa using hp
  have hok:=h.ok hkl
  have hk34:(ds.getD k de0).kind=3∨(ds.getD k de0).kind=4:=by
   have hkd:=hok.kind
   have hbare:=hok.bare
   unfold placeI at hpl
   split at hpl
   ·cases hpl
   ·rcases hkd with e | e | e | e | e
    ·exact absurd (by rw [← hnm];exact hbare (.inl e)) hrn
    ·omega
    ·exact .inl e
    ·exact .inr e
    ·exact absurd (by rw [← hnm];exact hbare (.inr e)) hrn
  refine⟨k,by omega,hk34,hnm,hmode.1,hmode.2.1,fun e=>?_,fun e=>?_,by rw [valI,hv];exact if_neg (by omega),fun e=>absurd e (by omega),hmode.2.2⟩
  ·unfold placeI at hpl
   rw [if_neg (by omega)] at hpl
   by_cases hp:(ds.getD k de0).plate=[]
   ·exact lenG_one hk34 hp
   ·rw [if_neg hp,if_pos e] at hpl;cases hpl
  ·unfold placeI at hpl
   rw [if_neg (by omega)] at hpl
   by_cases hp:(ds.getD k de0).plate=[]
   ·rw [if_pos hp] at hpl
    have:=of_decide_eq_false hpl
    omega
   ·rw [if_neg hp,if_neg (by omega),if_pos e] at hpl
    have hlt2:=of_decide_eq_false hpl
    have h3:(ds.getD k de0).kind=3:=by
     rcases hk34 with e3 | e4
     ·exact e3
     ·exact absurd (hok.plate (by omega)) hp
    obtain⟨u,hu,hk2,hs,hs1,_⟩:=h.size hkl h3 hp
    have hu2:fstV (ds.take j) (ds.getD k de0).plate=some u:=by
     have e1:ds.take j=ds.take k++(ds.take j).drop k:=by
      conv=>lhs;rw [← List.take_append_drop k (ds.take j)]
      rw [List.take_take,Nat.min_eq_left (by omega)]
     rw [e1];exact fstV_app hu
    rw [sizeV,hu2] at hlt2
    simp only [hk2,if_true] at hlt2
    rw [lenG_plate hk34 hp,hs]
    omega
end
end Go.Proofs.YtkegmchjobphdaaGreatDoor
namespace Go.Proofs.YtkegmchjobphdaaGreatDoor
open Go Y
set_option maxRecDepth 100000
set_option maxHeartbeats 40000000
abbrev TMb:TypeId:=173
abbrev mbs (l:List Mb):PV:=.lsts 8 (l.map Mb.cells)
def mbO (l:List Mb):AObj:=⟨TMb,false, .pus (l.map Mb.cells)⟩
theorem mcell {l:List Mb} {k:Nat} (h:k<l.length):(l.map Mb.cells)[k]?=some (l.getD k mb0).cells:=map_at mb0 h
theorem gsize_c (l:List De) (pl:List UInt8) (hl:l.length≤1000):Pure cx 105 [srcV l, .str pl] (·=.ret [i64 (sizeG l pl)]):=by
 have hm:(l.map De.cells).length=l.length:=List.length_map ..
 obtain⟨R,hR⟩:∃ R,R=sizeG l pl:=⟨_,rfl⟩
 rw [← hR]
 refine pure_of_vc Tryz.func105 rfl rfl rfl ?_
 refine⟨Nat,fun k=>[(1, .p (.str pl)),(2, .ptr 0 0 0),(5, .p (i64 k))],fun _=>⟨1,[(0,scO l)]⟩,fun k=>k≤l.length∧R=sizeG (l.drop k) pl,fun k=>l.length - k,?_,?_⟩
 ·exact⟨0,⟨Nat.zero_le _,hR⟩,ent_of [] [] [] rfl (sk) (sk) rfl⟩
 rintro k ⟨k1,k2⟩
 (first | refine brLt (fun m1=>?_) (fun m1=>?_) | refine brLe (fun m1=>?_) (fun m1=>?_) | refine brEq (fun m1=>?_) (fun m1=>?_))
 rotate_left
 ·have m1:¬ (k:Int)<((l.map De.cells).length:Nat):=m1
  rw [hm] at m1
  rw [List.drop_eq_nil_of_le (by omega),sizeG] at k2
  exact end1 _ rfl rfl (retI k2.symm)
 have m1:(k:Int)<((l.map De.cells).length:Nat):=m1
 rw [hm] at m1
 have hk:k<l.length:=by omega
 have hcell:=decell hk
 rw [dropD de0 hk,sizeG] at k2
 generalize l.getD k de0=d at hcell k2
 obtain⟨dk,dn,dnm,dpl,drs,dcs⟩:=d
 simp only [] at k2
 refine⟨_,⟨by omega,(De.mk dk dn dnm dpl drs dcs).cells,hcell,rfl⟩,?_⟩
 (first | refine brLt (fun q2=>?_) (fun q2=>?_) | refine brLe (fun q2=>?_) (fun q2=>?_) | refine brEq (fun q2=>?_) (fun q2=>?_))
 rotate_left
 ·have q2:¬ dk=2:=q2
  rw [if_neg (fun e=>q2 e.1)] at k2
  refine⟨_,wrap_i64 (by omega) (by omega),?_⟩
  exact⟨k+1,⟨by omega,k2⟩,ent_of [] [] [] rfl (sk) (sk) rfl,by show l.length - (k+1)<l.length - k;omega⟩
 have q2:dk=2:=q2
 refine⟨_,⟨by omega,(De.mk dk dn dnm dpl drs dcs).cells,hcell,rfl⟩,?_⟩
 refine And.intro (fun e1=>?_) (fun e1=>?_)
 ·have e1:dnm=pl:=e1
  rw [if_pos ⟨q2,e1⟩] at k2
  refine⟨_,⟨by omega,(De.mk dk dn dnm dpl drs dcs).cells,hcell,rfl⟩,?_⟩
  exact end1 _ rfl rfl (retI k2.symm)
 ·have e1:¬ dnm=pl:=e1
  rw [if_neg (fun e=>e1 e.2)] at k2
  refine⟨_,wrap_i64 (by omega) (by omega),?_⟩
  exact⟨k+1,⟨by omega,k2⟩,ent_of [] [] [] rfl (sk) (sk) rfl,by show l.length - (k+1)<l.length - k;omega⟩
theorem digG_N {k:Nat} (h:k<10):digN 1 k=digG k:=by
 have:k=0∨k=1∨k=2∨k=3∨k=4∨k=5∨k=6∨k=7∨k=8∨k=9:=by omega
 rcases this with rfl | rfl | rfl | rfl | rfl | rfl | rfl | rfl | rfl | rfl <;> rfl
theorem gdig_c {k:Nat} (h:k<10):Pure cx 106 [i64 (k:Nat)] (·=.ret [.str (digG k)]):=by
 rw [← digG_N h]
 exact digits_c 0 k (by decide) (by omega)
theorem memG_snoc (p:List De) {ds:List De} {k:Nat} (hk:k<ds.length):memG p (ds.take (k+1))=memG p (ds.take k)++blkG p (ds.getD k de0):=by
 rw [take_succ_getD de0 hk,memG,memG,List.flatMap_append]
 show _++(blkG p _++[])=_
 rw [List.append_nil]
theorem blkG_len {p:List De} {d:De} (h:sizeG p d.plate≤6):(blkG p d).length≤6:=by
 unfold blkG
 split
 ·split
  ·show 1≤6;decide
  ·rw [List.length_map,List.length_range];omega
 ·decide
theorem memG_len {p:List De}:∀ {l:List De},(∀ d∈l,sizeG p d.plate≤6)→(memG p l).length≤6 * l.length
 | [],_=>Nat.le_refl _
 | d::r,h=>by
  rw [memG,List.flatMap_cons,List.length_append]
  have h1:=blkG_len (h d (List.mem_cons_self ..))
  have h2:=memG_len (l:=r) fun x hx=>h x (List.mem_cons_of_mem _ hx)
  rw [memG] at h2
  rw [List.length_cons];omega
abbrev otM12:OT:=(.pure 0 (.pure 1 (.pure 2 (.pure 3 (.pure 4 (.pure 5 (.pure 6 (.eff 7 [4,1] (.pure 8 (.pure 9 (.pure 10 (.eff 11 [] (.eff 12 [] (.pure 13 .fin) .nil) .nil)))) .nil))))))))
theorem range_snoc {α:Type} (f:Nat→α) (n:Nat):(List.range (n+1)).map f=(List.range n).map f++[f n]:=by rw [List.range_succ,List.map_append];rfl
theorem gmembers_c (ds:List De) (hl:ds.length≤30) (hz:∀ d∈ds,sizeG ds d.plate≤6) (hnm:∀ d∈ds,d.name.length≤1000000):Pure cx 66 [srcV ds] (·=.ret [mbs (memG ds ds)]):=by
 have hm:(ds.map De.cells).length=ds.length:=List.length_map ..
 obtain⟨R,hR⟩:∃ R,R=memG ds ds:=⟨_,rfl⟩
 rw [← hR]
 refine pure_of_vc Tryz.func66 rfl rfl rfl ?_
 refine⟨Nat × List Mb,fun x=>[(1, .ptr 0 0 0),(3, .sl 1 8 0 x.2.length),(4, .p (i64 x.1))],fun x=>⟨2,[(1,mbO x.2),(0,scO ds)]⟩,fun x=>x.1≤ds.length∧x.2=memG ds (ds.take x.1),fun x=>ds.length - x.1,?_,?_⟩
 ·exact⟨(0,[]),⟨Nat.zero_le _,rfl⟩,ent_of [] [] [(1,8)] rfl (sk) (sk) rfl⟩
 rintro⟨k,cur⟩ ⟨k1,k2⟩
 simp only [] at k1 k2
 have hcl:cur.length≤200:=by
  rw [k2]
  have:=memG_len (p:=ds) (l:=ds.take k) fun d hd=>hz d (List.mem_of_mem_take hd)
  rw [List.length_take] at this;omega
 (first | refine brLt (fun m1=>?_) (fun m1=>?_) | refine brLe (fun m1=>?_) (fun m1=>?_) | refine brEq (fun m1=>?_) (fun m1=>?_))
 rotate_left
 ·have m1:¬ (k:Int)<((ds.map De.cells).length:Nat):=m1
  rw [hm] at m1
  rw [take_all (by omega)] at k2
  exact end1 (mbs cur) rfl ⟨_,rfl,by show 0+cur.length≤(cur.map Mb.cells).length;simp,takeAll (by simp)⟩ (by rw [hR,k2])
 have m1:(k:Int)<((ds.map De.cells).length:Nat):=m1
 rw [hm] at m1
 have hk:k<ds.length:=by omega
 have hcell:=decell hk
 have hnx:=memG_snoc ds hk
 have hz1:=hz _ (getD_memL de0 hk)
 have hn1:=hnm _ (getD_memL de0 hk)
 rw [← k2] at hnx
 clear k2
 generalize ds.getD k de0=d at hcell hnx hz1 hn1
 have hS:=gsize_c ds d.plate (by omega)
 obtain⟨dk,dn,dnm,dpl,drs,dcs⟩:=d
 simp only [] at hz1 hS hn1
 refine⟨_,⟨by omega,(De.mk dk dn dnm dpl drs dcs).cells,hcell,rfl⟩,?_⟩
 by_cases kk:dk=3∨dk=4
 rotate_left
 ·rw [blkG,if_neg kk,List.append_nil] at hnx
  refine And.intro (fun q3=>absurd (Or.inl (show dk=3 from q3)) kk) (fun _=>?_)
  refine And.intro (fun q4=>absurd (Or.inr (show dk=4 from q4)) kk) (fun _=>?_)
  refine⟨_,wrap_i64 (by omega) (by omega),?_⟩
  exact⟨(k+1,cur),⟨by show k+1≤ds.length;omega,hnx.symm⟩,ent_of [] [] [] rfl (sk) (sk) rfl,by show ds.length - (k+1)<ds.length - k;omega⟩
 refine And.intro (fun q3=>?_) (fun q3=>?_)
 ·have q3:dk=3:=q3
  (first | refine brLt (fun p0=>?_) (fun p0=>?_) | refine brLe (fun p0=>?_) (fun p0=>?_) | refine brEq (fun p0=>?_) (fun p0=>?_))
  ·have p0:dpl=[]:=p0
   rw [blkG,if_pos kk,if_pos p0] at hnx
   refine⟨by show 0+1≤1;omega,[Mb.cells (Mb.mk ⟨dk,dn,dnm,dpl,drs,dcs⟩ 0 dnm)],rfl,?_⟩
   refine⟨by show 0+cur.length≤(cur.map Mb.cells).length;simp,cur.map Mb.cells,takeAll (by simp),by show(cur.length+1) * 120≤140737488355328;omega,(cur++[Mb.mk ⟨dk,dn,dnm,dpl,drs,dcs⟩ 0 dnm]).map Mb.cells,by rw [List.map_append];rfl,?_⟩
   refine⟨_,wrap_i64 (by omega) (by omega),?_⟩
   exact⟨(k+1,cur++[Mb.mk ⟨dk,dn,dnm,dpl,drs,dcs⟩ 0 dnm]),⟨by show k+1≤ds.length;omega,hnx.symm⟩,ent_of [] [(1,4)] [] rfl ⟨⟨rfl,rfl⟩,congrArg (fun j:Nat=>AV.sl 4 8 0 j) (snoc_len cur _).symm,rfl,trivial⟩ (sk) rfl,by show ds.length - (k+1)<ds.length - k;omega⟩
  ·have p0:¬ dpl=[]:=p0
   rw [blkG,if_pos kk,if_neg p0] at hnx
   simp only [] at hnx
   generalize sizeG ds dpl=sz at hS hz1 hnx
   refine⟨Nat × List Mb,fun x=>[(1, .ptr 0 0 0),(3, .sl 1 8 0 x.2.length),(4, .p (i64 k)),(5, .ptr 2 0 0),(6, .p (i64 x.1))],fun x=>⟨3,[(2,dcO ⟨dk,dn,dnm,dpl,drs,dcs⟩),(1,mbO x.2),(0,scO ds)]⟩,fun x=>x.1≤sz.toNat∧x.2=cur++(List.range x.1).map fun j=>⟨⟨dk,dn,dnm,dpl,drs,dcs⟩,(j:Nat),nameG ⟨dk,dn,dnm,dpl,drs,dcs⟩ j⟩,fun x=>sz.toNat - x.1,?_,?_⟩
   ·exact⟨(0,cur),⟨Nat.zero_le _,(List.append_nil _).symm⟩,ent_of [] [] [] rfl (sk) (sk) rfl⟩
   rintro⟨j,cu⟩ ⟨j1,j2⟩
   simp only [] at j1 j2
   have hul:cu.length≤300:=by rw [j2,List.length_append,List.length_map,List.length_range];omega
   refine hS.eq rfl ?_
   (first | refine brLt (fun m2=>?_) (fun m2=>?_) | refine brLe (fun m2=>?_) (fun m2=>?_) | refine brEq (fun m2=>?_) (fun m2=>?_))
   rotate_left
   ·have m2:¬ (j:Int)<sz:=m2
    rw [show sz.toNat=j by omega,← j2] at hnx
    refine⟨_,wrap_i64 (by omega) (by omega),?_⟩
    exact⟨(k+1,cu),⟨by show k+1≤ds.length;omega,hnx.symm⟩,ent_of [] [] [] rfl (sk) (sk) rfl,by show ds.length - (k+1)<ds.length - k;omega⟩
   have m2:(j:Int)<sz:=m2
   have hD:=gdig_c (k:=j) (by omega)
   have j3:=range_snoc (fun j=>(⟨⟨dk,dn,dnm,dpl,drs,dcs⟩,(j:Nat),nameG ⟨dk,dn,dnm,dpl,drs,dcs⟩ j⟩:Mb)) j
   refine vdraw_ot otM12 (by kernel_rfl) ?_
   refine⟨by show dnm.length+1≤9223372036854775807;omega,?_⟩
   refine hD.eq rfl ?_
   refine⟨sk,?_⟩
   refine⟨by show(dnm++[91]).length+1≤9223372036854775807;rw [List.length_append];show dnm.length+1+1≤_;omega,?_⟩
   refine⟨by show(dnm++[91]++digG j).length+1≤9223372036854775807;rw [List.length_append,List.length_append];show dnm.length+1+1+1≤_;omega,?_⟩
   refine⟨by show 0+1≤1;omega,[Mb.cells (Mb.mk ⟨dk,dn,dnm,dpl,drs,dcs⟩ (j:Nat) (nameG ⟨dk,dn,dnm,dpl,drs,dcs⟩ j))],rfl,?_⟩
   refine⟨by show 0+cu.length≤(cu.map Mb.cells).length;simp,cu.map Mb.cells,takeAll (by simp),by show(cu.length+1) * 120≤140737488355328;omega,(cu++[Mb.mk ⟨dk,dn,dnm,dpl,drs,dcs⟩ (j:Nat) (nameG ⟨dk,dn,dnm,dpl,drs,dcs⟩ j)]).map Mb.cells,by rw [List.map_append];rfl,?_⟩
   refine⟨_,wrap_i64 (by omega) (by omega),?_⟩
   exact⟨(j+1,cu++[Mb.mk ⟨dk,dn,dnm,dpl,drs,dcs⟩ (j:Nat) (nameG ⟨dk,dn,dnm,dpl,drs,dcs⟩ j)]),⟨by show j+1≤sz.toNat;omega,by show cu++_=_;rw [j3,← List.append_assoc,← j2]⟩,ent_of [] [(1,4)] [] rfl ⟨⟨rfl,rfl⟩,congrArg (fun j:Nat=>AV.sl 4 8 0 j) (snoc_len cu _).symm,rfl,⟨rfl,rfl⟩,rfl,trivial⟩ (sk) rfl,by show sz.toNat - (j+1)<sz.toNat - j;omega⟩
 ·have q3:¬ dk=3:=q3
  refine And.intro (fun q4=>?_) (fun q4=>absurd kk (fun e=>e.elim q3 q4))
  (first | refine brLt (fun p0=>?_) (fun p0=>?_) | refine brLe (fun p0=>?_) (fun p0=>?_) | refine brEq (fun p0=>?_) (fun p0=>?_))
  ·have p0:dpl=[]:=p0
   rw [blkG,if_pos kk,if_pos p0] at hnx
   refine⟨by show 0+1≤1;omega,[Mb.cells (Mb.mk ⟨dk,dn,dnm,dpl,drs,dcs⟩ 0 dnm)],rfl,?_⟩
   refine⟨by show 0+cur.length≤(cur.map Mb.cells).length;simp,cur.map Mb.cells,takeAll (by simp),by show(cur.length+1) * 120≤140737488355328;omega,(cur++[Mb.mk ⟨dk,dn,dnm,dpl,drs,dcs⟩ 0 dnm]).map Mb.cells,by rw [List.map_append];rfl,?_⟩
   refine⟨_,wrap_i64 (by omega) (by omega),?_⟩
   exact⟨(k+1,cur++[Mb.mk ⟨dk,dn,dnm,dpl,drs,dcs⟩ 0 dnm]),⟨by show k+1≤ds.length;omega,hnx.symm⟩,ent_of [] [(1,4)] [] rfl ⟨⟨rfl,rfl⟩,congrArg (fun j:Nat=>AV.sl 4 8 0 j) (snoc_len cur _).symm,rfl,trivial⟩ (sk) rfl,by show ds.length - (k+1)<ds.length - k;omega⟩
  ·have p0:¬ dpl=[]:=p0
   rw [blkG,if_pos kk,if_neg p0] at hnx
   simp only [] at hnx
   generalize sizeG ds dpl=sz at hS hz1 hnx
   refine⟨Nat × List Mb,fun x=>[(1, .ptr 0 0 0),(3, .sl 1 8 0 x.2.length),(4, .p (i64 k)),(5, .ptr 2 0 0),(6, .p (i64 x.1))],fun x=>⟨3,[(2,dcO ⟨dk,dn,dnm,dpl,drs,dcs⟩),(1,mbO x.2),(0,scO ds)]⟩,fun x=>x.1≤sz.toNat∧x.2=cur++(List.range x.1).map fun j=>⟨⟨dk,dn,dnm,dpl,drs,dcs⟩,(j:Nat),nameG ⟨dk,dn,dnm,dpl,drs,dcs⟩ j⟩,fun x=>sz.toNat - x.1,?_,?_⟩
   ·exact⟨(0,cur),⟨Nat.zero_le _,(List.append_nil _).symm⟩,ent_of [] [] [] rfl (sk) (sk) rfl⟩
   rintro⟨j,cu⟩ ⟨j1,j2⟩
   simp only [] at j1 j2
   have hul:cu.length≤300:=by rw [j2,List.length_append,List.length_map,List.length_range];omega
   refine hS.eq rfl ?_
   (first | refine brLt (fun m2=>?_) (fun m2=>?_) | refine brLe (fun m2=>?_) (fun m2=>?_) | refine brEq (fun m2=>?_) (fun m2=>?_))
   rotate_left
   ·have m2:¬ (j:Int)<sz:=m2
    rw [show sz.toNat=j by omega,← j2] at hnx
    refine⟨_,wrap_i64 (by omega) (by omega),?_⟩
    exact⟨(k+1,cu),⟨by show k+1≤ds.length;omega,hnx.symm⟩,ent_of [] [] [] rfl (sk) (sk) rfl,by show ds.length - (k+1)<ds.length - k;omega⟩
   have m2:(j:Int)<sz:=m2
   have hD:=gdig_c (k:=j) (by omega)
   have j3:=range_snoc (fun j=>(⟨⟨dk,dn,dnm,dpl,drs,dcs⟩,(j:Nat),nameG ⟨dk,dn,dnm,dpl,drs,dcs⟩ j⟩:Mb)) j
   refine vdraw_ot otM12 (by kernel_rfl) ?_
   refine⟨by show dnm.length+1≤9223372036854775807;omega,?_⟩
   refine hD.eq rfl ?_
   refine⟨sk,?_⟩
   refine⟨by show(dnm++[91]).length+1≤9223372036854775807;rw [List.length_append];show dnm.length+1+1≤_;omega,?_⟩
   refine⟨by show(dnm++[91]++digG j).length+1≤9223372036854775807;rw [List.length_append,List.length_append];show dnm.length+1+1+1≤_;omega,?_⟩
   refine⟨by show 0+1≤1;omega,[Mb.cells (Mb.mk ⟨dk,dn,dnm,dpl,drs,dcs⟩ (j:Nat) (nameG ⟨dk,dn,dnm,dpl,drs,dcs⟩ j))],rfl,?_⟩
   refine⟨by show 0+cu.length≤(cu.map Mb.cells).length;simp,cu.map Mb.cells,takeAll (by simp),by show(cu.length+1) * 120≤140737488355328;omega,(cu++[Mb.mk ⟨dk,dn,dnm,dpl,drs,dcs⟩ (j:Nat) (nameG ⟨dk,dn,dnm,dpl,drs,dcs⟩ j)]).map Mb.cells,by rw [List.map_append];rfl,?_⟩
   refine⟨_,wrap_i64 (by omega) (by omega),?_⟩
   exact⟨(j+1,cu++[Mb.mk ⟨dk,dn,dnm,dpl,drs,dcs⟩ (j:Nat) (nameG ⟨dk,dn,dnm,dpl,drs,dcs⟩ j)]),⟨by show j+1≤sz.toNat;omega,by show cu++_=_;rw [j3,← List.append_assoc,← j2]⟩,ent_of [] [(1,4)] [] rfl ⟨⟨rfl,rfl⟩,congrArg (fun j:Nat=>AV.sl 4 8 0 j) (snoc_len cu _).symm,rfl,⟨rfl,rfl⟩,rfl,trivial⟩ (sk) rfl,by show sz.toNat - (j+1)<sz.toNat - j;omega⟩
set_option maxHeartbeats 4000000
theorem named_mem {l:List Mb} {r:Rf} {idx:Int} {i:Nat}:i∈namedG l r idx ↔ i<l.length∧isG (l.getD i mb0) r idx=true:=by
 rw [namedG,List.mem_filter,List.mem_range]
theorem par_mem {l:List Mb} {refs:List Rf} {idx:Int} {i:Nat}:i∈parG l refs idx ↔ ∃ r∈refs,i∈namedG l r idx:=by
 rw [parG,List.mem_filter,List.mem_range,List.any_eq_true]
 constructor
 ·rintro⟨h1,r,hr,h2⟩
  exact⟨r,hr,named_mem.2 ⟨h1,h2⟩⟩
 ·rintro⟨r,hr,h⟩
  have:=named_mem.1 h
  exact⟨this.1,r,hr,this.2⟩
theorem par_nodup (l:List Mb) (refs:List Rf) (idx:Int):(parG l refs idx).Nodup:=List.nodup_range.filter _
theorem par_lt {l:List Mb} {refs:List Rf} {idx:Int}:∀ i∈parG l refs idx,i<l.length:=fun i hi=>by
 obtain⟨r,_,h⟩:=par_mem.1 hi
 exact(named_mem.1 h).1
set_option maxHeartbeats 40000000
abbrev TN:TypeId:=3
def niO (l:List Nat):AObj:=⟨TN,false, .pu (l.map fun i=>i64 (i:Nat))⟩
theorem relation_c (rel a b:Int):Pure cx 202 [i64 rel,i64 a,i64 b] (·=.ret [.bool (relG rel a b)]):=by
 obtain⟨R,hR⟩:∃ R,R=relG rel a b:=⟨_,rfl⟩
 rw [← hR]
 refine pure_of_vc Tryz.func202 rfl rfl rfl ?_
 (first | refine brLt (fun r1=>?_) (fun r1=>?_) | refine brLe (fun r1=>?_) (fun r1=>?_) | refine brEq (fun r1=>?_) (fun r1=>?_))
 ·have r1:rel=1:=r1
  rw [relG,if_pos r1] at hR
  (first | refine brLt (fun e=>?_) (fun e=>?_) | refine brLe (fun e=>?_) (fun e=>?_) | refine brEq (fun e=>?_) (fun e=>?_))
  ·have e:a=b:=e
   exact end1 _ rfl rfl (retB (by rw [hR,decide_eq_true e]))
  ·have e:¬ a=b:=e
   exact end1 _ rfl rfl (retB (by rw [hR,decide_eq_false e]))
 have r1:¬ rel=1:=r1
 (first | refine brLt (fun r2=>?_) (fun r2=>?_) | refine brLe (fun r2=>?_) (fun r2=>?_) | refine brEq (fun r2=>?_) (fun r2=>?_))
 ·have r2:rel=2:=r2
  rw [relG,if_neg r1,if_pos r2] at hR
  (first | refine brLt (fun e=>?_) (fun e=>?_) | refine brLe (fun e=>?_) (fun e=>?_) | refine brEq (fun e=>?_) (fun e=>?_))
  ·have e:a=b:=e
   exact end1 _ rfl rfl (retB (by rw [hR,decide_eq_false (fun h=>h e)]))
  ·have e:¬ a=b:=e
   exact end1 _ rfl rfl (retB (by rw [hR,decide_eq_true e]))
 have r2:¬ rel=2:=r2
 (first | refine brLt (fun r3=>?_) (fun r3=>?_) | refine brLe (fun r3=>?_) (fun r3=>?_) | refine brEq (fun r3=>?_) (fun r3=>?_))
 ·have r3:rel=3:=r3
  rw [relG,if_neg r1,if_neg r2,if_pos r3] at hR
  (first | refine brLt (fun e=>?_) (fun e=>?_) | refine brLe (fun e=>?_) (fun e=>?_) | refine brEq (fun e=>?_) (fun e=>?_))
  ·have e:a<b:=e
   exact end1 _ rfl rfl (retB (by rw [hR,decide_eq_true e]))
  ·have e:¬ a<b:=e
   exact end1 _ rfl rfl (retB (by rw [hR,decide_eq_false e]))
 ·have r3:¬ rel=3:=r3
  rw [relG,if_neg r1,if_neg r2,if_neg r3] at hR
  (first | refine brLt (fun e=>?_) (fun e=>?_) | refine brLe (fun e=>?_) (fun e=>?_) | refine brEq (fun e=>?_) (fun e=>?_))
  ·have e:a≤b:=e
   exact end1 _ rfl rfl (retB (by rw [hR,decide_eq_true e]))
  ·have e:¬ a≤b:=e
   exact end1 _ rfl rfl (retB (by rw [hR,decide_eq_false e]))
theorem filt_snoc (p:Nat→Bool) (n:Nat):(List.range (n+1)).filter p=(List.range n).filter p++(if p n then [n] else []):=by
 rw [List.range_succ,List.filter_append]
 by_cases h:p n=true
 ·rw [if_pos h,List.filter_cons_of_pos h];rfl
 ·rw [if_neg h,List.filter_cons_of_neg h];rfl
abbrev otN9:OT:=(.pure 0 (.pure 1 (.pure 2 (.pure 3 (.pure 4 (.pure 5 (.pure 6 (.pure 7 (.pure 8 .fin)))))))))
abbrev otN11:OT:=(.pure 0 (.pure 1 (.pure 2 (.pure 3 (.pure 4 (.pure 5 (.pure 6 (.pure 7 (.pure 8 (.pure 9 (.pure 10 .fin)))))))))))
theorem gnamed_c (l:List Mb) (r:Rf) (idx:Int) (hl:l.length≤300) (hi:0≤idx∧idx≤1000) (hr:-100000≤r.n∧r.n≤100000):Pure cx 107 [mbs l,r.pv,i64 idx] (·=.ret [nats (namedG l r idx)]):=by
 have hm:(l.map Mb.cells).length=l.length:=List.length_map ..
 obtain⟨R,hR⟩:∃ R,R=namedG l r idx:=⟨_,rfl⟩
 rw [← hR]
 obtain⟨rn,rm,rp,ri⟩:=r
 simp only [] at hr
 refine pure_of_vc Tryz.func107 rfl rfl rfl ?_
 refine⟨Nat × List Nat,fun x=>[(0, .p (mbs l)),(2, .p (i64 idx)),(4, .ptr 0 0 0),(7, .sl 1 1 0 x.2.length),(8, .p (i64 x.1))],fun x=>⟨2,[(1,niO x.2),(0,rfO ⟨rn,rm,rp,ri⟩)]⟩,fun x=>x.1≤l.length∧x.2=(List.range x.1).filter fun i=>isG (l.getD i mb0) ⟨rn,rm,rp,ri⟩ idx,fun x=>l.length - x.1,?_,?_⟩
 ·exact⟨(0,[]),⟨Nat.zero_le _,rfl⟩,ent_of [] [] [(1,1)] rfl (sk) (sk) rfl⟩
 rintro⟨k,cur⟩ ⟨k1,k2⟩
 simp only [] at k1 k2
 have hcl:cur.length≤300:=by
  rw [k2]
  have:=List.length_filter_le (fun i=>isG (l.getD i mb0) ⟨rn,rm,rp,ri⟩ idx) (List.range k)
  rw [List.length_range] at this;omega
 (first | refine brLt (fun m1=>?_) (fun m1=>?_) | refine brLe (fun m1=>?_) (fun m1=>?_) | refine brEq (fun m1=>?_) (fun m1=>?_))
 rotate_left
 ·have m1:¬ (k:Int)<((l.map Mb.cells).length:Nat):=m1
  rw [hm] at m1
  rw [namedG,show l.length=k by omega,← k2] at hR
  exact end1 (nats cur) rfl ⟨_,rfl,by show 0+cur.length≤(cur.map fun i=>i64 (i:Nat)).length;simp,takeAll (by simp)⟩ (by rw [hR])
 have m1:(k:Int)<((l.map Mb.cells).length:Nat):=m1
 rw [hm] at m1
 have hk:k<l.length:=by omega
 have hcell:=mcell hk
 have hN:=filt_snoc (fun i=>isG (l.getD i mb0) ⟨rn,rm,rp,ri⟩ idx) k
 rw [← k2] at hN
 have hN:=hN.symm
 generalize l.getD k mb0=m at hcell hN
 obtain⟨⟨dk,dn,dnm,dpl,drs,dcs⟩,mi,mn⟩:=m
 refine vdraw_ot otN9 (by kernel_rfl) ?_
 refine⟨_,⟨by omega,(Mb.mk ⟨dk,dn,dnm,dpl,drs,dcs⟩ mi mn).cells,hcell,rfl⟩,?_⟩
 refine And.intro (fun e1=>?_) (fun e1=>?_)
 rotate_left
 ·have e1:¬ dnm=rn:=e1
  have hI:isG (Mb.mk ⟨dk,dn,dnm,dpl,drs,dcs⟩ mi mn) ⟨rn,rm,rp,ri⟩ idx=false:=by simp [isG,e1]
  rw [hI,if_neg (by decide),List.append_nil] at hN
  refine⟨_,wrap_i64 (by omega) (by omega),?_⟩
  exact⟨(k+1,cur),⟨by show k+1≤l.length;omega,hN⟩,ent_of [] [] [] rfl (sk) (sk) rfl,by show l.length - (k+1)<l.length - k;omega⟩
 have e1:dnm=rn:=e1
 (first | refine brLt (fun m2=>?_) (fun m2=>?_) | refine brLe (fun m2=>?_) (fun m2=>?_) | refine brEq (fun m2=>?_) (fun m2=>?_))
 ·have m2:rm=2:=m2
  refine vdraw_ot otN9 (by kernel_rfl) ?_
  refine⟨_,⟨by omega,(Mb.mk ⟨dk,dn,dnm,dpl,drs,dcs⟩ mi mn).cells,hcell,rfl⟩,?_⟩
  (first | refine brLt (fun n2=>?_) (fun n2=>?_) | refine brLe (fun n2=>?_) (fun n2=>?_) | refine brEq (fun n2=>?_) (fun n2=>?_))
  ·have n2:mi=ri:=n2
   have hI:isG (Mb.mk ⟨dk,dn,dnm,dpl,drs,dcs⟩ mi mn) ⟨rn,rm,rp,ri⟩ idx=true:=by simp [isG,e1,m2,n2]
   rw [hI,if_pos rfl] at hN
   refine⟨by show 0+1≤1;omega,[i64 (k:Nat)],rfl,?_⟩
   refine⟨by show 0+cur.length≤(cur.map fun i=>i64 (i:Nat)).length;simp,cur.map fun i=>i64 (i:Nat),takeAll (by simp),by show(cur.length+1) * 8≤140737488355328;omega,(cur++[k]).map fun i=>i64 (i:Nat),by rw [List.map_append];rfl,?_⟩
   refine⟨_,wrap_i64 (by omega) (by omega),?_⟩
   exact⟨(k+1,cur++[k]),⟨by show k+1≤l.length;omega,hN⟩,ent_of [] [(1,3)] [] rfl ⟨rfl,rfl,⟨rfl,rfl⟩,congrArg (fun j:Nat=>AV.sl 3 1 0 j) (snoc_len cur _).symm,rfl,trivial⟩ (sk) rfl,by show l.length - (k+1)<l.length - k;omega⟩
  ·have n2:¬ mi=ri:=n2
   have hI:isG (Mb.mk ⟨dk,dn,dnm,dpl,drs,dcs⟩ mi mn) ⟨rn,rm,rp,ri⟩ idx=false:=by simp [isG,e1,m2,n2]
   rw [hI,if_neg (by decide),List.append_nil] at hN
   refine⟨_,wrap_i64 (by omega) (by omega),?_⟩
   exact⟨(k+1,cur),⟨by show k+1≤l.length;omega,hN⟩,ent_of [] [] [] rfl (sk) (sk) rfl,by show l.length - (k+1)<l.length - k;omega⟩
 have m2:¬ rm=2:=m2
 (first | refine brLt (fun m3=>?_) (fun m3=>?_) | refine brLe (fun m3=>?_) (fun m3=>?_) | refine brEq (fun m3=>?_) (fun m3=>?_))
 ·have m3:rm=1:=m3
  refine vdraw_ot otN11 (by kernel_rfl) ?_
  refine⟨_,⟨by omega,(Mb.mk ⟨dk,dn,dnm,dpl,drs,dcs⟩ mi mn).cells,hcell,rfl⟩,?_⟩
  refine⟨idx+ri,wrap_i64 (by omega) (by omega),?_⟩
  (first | refine brLt (fun n3=>?_) (fun n3=>?_) | refine brLe (fun n3=>?_) (fun n3=>?_) | refine brEq (fun n3=>?_) (fun n3=>?_))
  ·have n3:mi=idx+ri:=n3
   have hI:isG (Mb.mk ⟨dk,dn,dnm,dpl,drs,dcs⟩ mi mn) ⟨rn,rm,rp,ri⟩ idx=true:=by simp [isG,e1,m3,n3]
   rw [hI,if_pos rfl] at hN
   refine⟨by show 0+1≤1;omega,[i64 (k:Nat)],rfl,?_⟩
   refine⟨by show 0+cur.length≤(cur.map fun i=>i64 (i:Nat)).length;simp,cur.map fun i=>i64 (i:Nat),takeAll (by simp),by show(cur.length+1) * 8≤140737488355328;omega,(cur++[k]).map fun i=>i64 (i:Nat),by rw [List.map_append];rfl,?_⟩
   refine⟨_,wrap_i64 (by omega) (by omega),?_⟩
   exact⟨(k+1,cur++[k]),⟨by show k+1≤l.length;omega,hN⟩,ent_of [] [(1,3)] [] rfl ⟨rfl,rfl,⟨rfl,rfl⟩,congrArg (fun j:Nat=>AV.sl 3 1 0 j) (snoc_len cur _).symm,rfl,trivial⟩ (sk) rfl,by show l.length - (k+1)<l.length - k;omega⟩
  ·have n3:¬ mi=idx+ri:=n3
   have hI:isG (Mb.mk ⟨dk,dn,dnm,dpl,drs,dcs⟩ mi mn) ⟨rn,rm,rp,ri⟩ idx=false:=by simp [isG,e1,m3,n3]
   rw [hI,if_neg (by decide),List.append_nil] at hN
   refine⟨_,wrap_i64 (by omega) (by omega),?_⟩
   exact⟨(k+1,cur),⟨by show k+1≤l.length;omega,hN⟩,ent_of [] [] [] rfl (sk) (sk) rfl,by show l.length - (k+1)<l.length - k;omega⟩
 ·have m3:¬ rm=1:=m3
  have hI:isG (Mb.mk ⟨dk,dn,dnm,dpl,drs,dcs⟩ mi mn) ⟨rn,rm,rp,ri⟩ idx=true:=by simp [isG,e1,m2,m3]
  rw [hI,if_pos rfl] at hN
  refine⟨by show 0+1≤1;omega,[i64 (k:Nat)],rfl,?_⟩
  refine⟨by show 0+cur.length≤(cur.map fun i=>i64 (i:Nat)).length;simp,cur.map fun i=>i64 (i:Nat),takeAll (by simp),by show(cur.length+1) * 8≤140737488355328;omega,(cur++[k]).map fun i=>i64 (i:Nat),by rw [List.map_append];rfl,?_⟩
  refine⟨_,wrap_i64 (by omega) (by omega),?_⟩
  exact⟨(k+1,cur++[k]),⟨by show k+1≤l.length;omega,hN⟩,ent_of [] [(1,3)] [] rfl ⟨rfl,rfl,⟨rfl,rfl⟩,congrArg (fun j:Nat=>AV.sl 3 1 0 j) (snoc_len cur _).symm,rfl,trivial⟩ (sk) rfl,by show l.length - (k+1)<l.length - k;omega⟩
theorem ncell {l:List Nat} {k:Nat} (h:k<l.length):(l.map fun i=>i64 ((i:Nat):Int))[k]?=some (i64 ((l.getD k 0:Nat):Int)):=map_at (f:=fun i:Nat=>i64 ((i:Nat):Int)) 0 h
theorem gparents_c (l:List Mb) (refs:List Rf) (idx:Int) (hl:l.length≤300) (hrl:refs.length≤100) (hi:0≤idx∧idx≤1000) (hr:∀ r∈refs,-100000≤r.n∧r.n≤100000):Pure cx 67 [mbs l,rfl_ refs,i64 idx] (·=.ret [nats (parG l refs idx)]):=by
 have hm:(l.map Mb.cells).length=l.length:=List.length_map ..
 have hrm:(refs.map Rf.cells).length=refs.length:=List.length_map ..
 obtain⟨R,hR⟩:∃ R,R=parG l refs idx:=⟨_,rfl⟩
 rw [← hR]
 refine pure_of_vc Tryz.func67 rfl rfl rfl ?_
 refine⟨Nat × List Nat,fun x=>[(0, .p (mbs l)),(1, .p (rfl_ refs)),(2, .p (i64 idx)),(7, .sl 0 1 0 x.2.length),(8, .p (i64 x.1))],fun x=>⟨1,[(0,niO x.2)]⟩,fun x=>x.1≤l.length∧x.2=(List.range x.1).filter fun i=>refs.any fun r=>isG (l.getD i mb0) r idx,fun x=>l.length - x.1,?_,?_⟩
 ·exact⟨(0,[]),⟨Nat.zero_le _,rfl⟩,ent_of [] [] [(0,1)] rfl (sk) (sk) rfl⟩
 rintro⟨k,cur⟩ ⟨k1,k2⟩
 simp only [] at k1 k2
 have hcl:cur.length≤300:=by
  rw [k2]
  have:=List.length_filter_le (fun i=>refs.any fun r=>isG (l.getD i mb0) r idx) (List.range k)
  rw [List.length_range] at this;omega
 (first | refine brLt (fun m1=>?_) (fun m1=>?_) | refine brLe (fun m1=>?_) (fun m1=>?_) | refine brEq (fun m1=>?_) (fun m1=>?_))
 rotate_left
 ·have m1:¬ (k:Int)<((l.map Mb.cells).length:Nat):=m1
  rw [hm] at m1
  rw [parG,show l.length=k by omega,← k2] at hR
  exact end1 (nats cur) rfl ⟨_,rfl,by show 0+cur.length≤(cur.map fun i=>i64 (i:Nat)).length;simp,takeAll (by simp)⟩ (by rw [hR])
 have m1:(k:Int)<((l.map Mb.cells).length:Nat):=m1
 rw [hm] at m1
 have hk:k<l.length:=by omega
 have hN:=(filt_snoc (fun i=>refs.any fun r=>isG (l.getD i mb0) r idx) k).symm
 rw [← k2] at hN
 refine⟨Nat × Bool,fun x=>[(0, .p (mbs l)),(1, .p (rfl_ refs)),(2, .p (i64 idx)),(7, .sl 0 1 0 cur.length),(8, .p (i64 k)),(9, .p (.bool x.2)),(10, .p (i64 x.1))],fun x=>⟨1,[(0,niO cur)]⟩,fun x=>x.1≤refs.length∧x.2=(refs.take x.1).any fun r=>isG (l.getD k mb0) r idx,fun x=>refs.length - x.1,?_,?_⟩
 ·exact⟨(0,false),⟨Nat.zero_le _,rfl⟩,ent_of [] [] [] rfl (sk) (sk) rfl⟩
 rintro⟨j,b⟩ ⟨j1,j2⟩
 simp only [] at j1 j2
 (first | refine brLt (fun n1=>?_) (fun n1=>?_) | refine brLe (fun n1=>?_) (fun n1=>?_) | refine brEq (fun n1=>?_) (fun n1=>?_))
 rotate_left
 ·have n1:¬ (j:Int)<((refs.map Rf.cells).length:Nat):=n1
  rw [hrm] at n1
  rw [take_all (by omega)] at j2
  rw [← j2] at hN
  cases b
  ·rw [if_neg (by decide),List.append_nil] at hN
   refine⟨_,wrap_i64 (by omega) (by omega),?_⟩
   exact⟨(k+1,cur),⟨by show k+1≤l.length;omega,hN⟩,ent_of [] [] [] rfl (sk) (sk) rfl,by show l.length - (k+1)<l.length - k;omega⟩
  ·rw [if_pos rfl] at hN
   refine⟨by show 0+1≤1;omega,[i64 (k:Nat)],rfl,?_⟩
   refine⟨by show 0+cur.length≤(cur.map fun i=>i64 (i:Nat)).length;simp,cur.map fun i=>i64 (i:Nat),takeAll (by simp),by show(cur.length+1) * 8≤140737488355328;omega,(cur++[k]).map fun i=>i64 (i:Nat),by rw [List.map_append];rfl,?_⟩
   refine⟨_,wrap_i64 (by omega) (by omega),?_⟩
   exact⟨(k+1,cur++[k]),⟨by show k+1≤l.length;omega,hN⟩,ent_of [] [(0,2)] [] rfl ⟨rfl,rfl,rfl,congrArg (fun j:Nat=>AV.sl 2 1 0 j) (snoc_len cur _).symm,rfl,trivial⟩ (sk) rfl,by show l.length - (k+1)<l.length - k;omega⟩
 have n1:(j:Int)<((refs.map Rf.cells).length:Nat):=n1
 rw [hrm] at n1
 have hj:j<refs.length:=by omega
 have hcell:=rcell hj
 have hS:=gnamed_c l (refs.getD j rf0) idx hl hi (hr _ (getD_memL rf0 hj))
 have hnx:(refs.take (j+1)).any (fun r=>isG (l.getD k mb0) r idx)=(b || decide (k∈namedG l (refs.getD j rf0) idx)):=by
  rw [take_succ_getD rf0 hj,List.any_append,← j2]
  congr 1
  show(isG (l.getD k mb0) (refs.getD j rf0) idx || false)=_
  rw [Bool.or_false]
  cases hg:isG (l.getD k mb0) (refs.getD j rf0) idx
  ·exact(decide_eq_false fun h=>by rw [named_mem,hg] at h;exact absurd h.2 (by decide)).symm
  ·exact(decide_eq_true (named_mem.2 ⟨hk,hg⟩)).symm
 have hnl:(namedG l (refs.getD j rf0) idx).length≤300:=by
  have:=List.length_filter_le (fun i=>isG (l.getD i mb0) (refs.getD j rf0) idx) (List.range l.length)
  rw [List.length_range] at this
  exact Nat.le_trans this hl
 generalize namedG l (refs.getD j rf0) idx=N at hS hnx hnl
 generalize refs.getD j rf0=r at hcell hS
 obtain⟨rn,rm,rp,ri⟩:=r
 have hNm:(N.map fun i=>i64 ((i:Nat):Int)).length=N.length:=List.length_map ..
 refine⟨_,⟨by omega,(Rf.mk rn rm rp ri).cells,hcell,rfl⟩,?_⟩
 refine hS.eq rfl ?_
 refine⟨Nat × Bool,fun x=>[(0, .p (mbs l)),(1, .p (rfl_ refs)),(2, .p (i64 idx)),(7, .sl 0 1 0 cur.length),(8, .p (i64 k)),(9, .p (.bool x.2)),(10, .p (i64 j)),(11, .p (nats N)),(12, .p (i64 x.1))],fun x=>⟨1,[(0,niO cur)]⟩,fun x=>x.1≤N.length∧x.2=(b || decide (k∈N.take x.1)),fun x=>N.length - x.1,?_,?_⟩
 ·exact⟨(0,b),⟨Nat.zero_le _,by show b=(b || decide (k∈([]:List Nat)));rw [decide_eq_false (by simp),Bool.or_false]⟩,ent_of [] [] [] rfl (sk) (sk) rfl⟩
 rintro⟨i,bb⟩ ⟨i1,i2⟩
 simp only [] at i1 i2
 (first | refine brLt (fun o1=>?_) (fun o1=>?_) | refine brLe (fun o1=>?_) (fun o1=>?_) | refine brEq (fun o1=>?_) (fun o1=>?_))
 rotate_left
 ·have o1:¬ (i:Int)<((N.map fun i=>i64 ((i:Nat):Int)).length:Nat):=o1
  rw [hNm] at o1
  rw [take_all (by omega),← hnx] at i2
  refine⟨_,wrap_i64 (by omega) (by omega),?_⟩
  exact⟨(j+1,bb),⟨by show j+1≤refs.length;omega,i2⟩,ent_of [] [] [] rfl (sk) (sk) rfl,by show refs.length - (j+1)<refs.length - j;omega⟩
 have o1:(i:Int)<((N.map fun i=>i64 ((i:Nat):Int)).length:Nat):=o1
 rw [hNm] at o1
 have hi2:i<N.length:=by omega
 have hc2:=ncell hi2
 have hx:(k∈N.take (i+1)) ↔ (k∈N.take i∨k=N.getD i 0):=by rw [take_succ_getD 0 hi2,List.mem_append,List.mem_singleton]
 generalize N.getD i 0=y at hc2 hx
 cases bb
 ·have hno:b=false∧¬ k∈N.take i:=by
   have h:=i2.symm
   rw [Bool.or_eq_false_iff] at h
   exact⟨h.1,of_decide_eq_false h.2⟩
  refine⟨_,⟨by omega,_,hc2,rfl⟩,?_⟩
  (first | refine brLt (fun e=>?_) (fun e=>?_) | refine brLe (fun e=>?_) (fun e=>?_) | refine brEq (fun e=>?_) (fun e=>?_))
  ·have e:(y:Int)=k:=e
   refine⟨_,wrap_i64 (by omega) (by omega),?_⟩
   exact⟨(i+1,true),⟨by show i+1≤N.length;omega,by
    show true=(b || decide (k∈N.take (i+1)))
    rw [decide_eq_true (hx.2 (.inr (by omega))),Bool.or_true]⟩,ent_of [] [] [] rfl (sk) (sk) rfl,by show N.length - (i+1)<N.length - i;omega⟩
  ·have e:¬ (y:Int)=k:=e
   refine⟨_,wrap_i64 (by omega) (by omega),?_⟩
   exact⟨(i+1,false),⟨by show i+1≤N.length;omega,by
    show false=(b || decide (k∈N.take (i+1)))
    rw [hno.1,Bool.false_or,decide_eq_false (fun h=>(hx.1 h).elim hno.2 fun q=>e (by omega))]⟩,ent_of [] [] [] rfl (sk) (sk) rfl,by show N.length - (i+1)<N.length - i;omega⟩
 ·have hyes:(b || decide (k∈N.take (i+1)))=true:=by
   have h:=i2.symm
   rw [Bool.or_eq_true] at h
   rcases h with h | h
   ·rw [h];rfl
   ·rw [decide_eq_true (hx.2 (.inl (of_decide_eq_true h))),Bool.or_true]
  refine⟨_,wrap_i64 (by omega) (by omega),?_⟩
  exact⟨(i+1,true),⟨by show i+1≤N.length;omega,hyes.symm⟩,ent_of [] [] [] rfl (sk) (sk) rfl,by show N.length - (i+1)<N.length - i;omega⟩
inductive GnC:Cd→Prop
 | no (n rel val:Int) (r:Rf) (st:List Int):GnC (.mk 0 n rel val r st [])
 | leaf (op n rel val:Int) (r:Rf) (st:List Int) (h0:op ≠ 0) (h7:op ≠ 7) (h8:op ≠ 8) (h9:op ≠ 9) (hr:-100000≤r.n∧r.n≤100000) (hs:st.length≤100):GnC (.mk op n rel val r st [])
 | neg (n rel val:Int) (r:Rf) (st:List Int) (a:Cd) (ha:GnC a):GnC (.mk 7 n rel val r st [a])
 | conj (n rel val:Int) (r:Rf) (st:List Int) (a b:Cd) (ha:GnC a) (hb:GnC b):GnC (.mk 8 n rel val r st [a,b])
 | disj (n rel val:Int) (r:Rf) (st:List Int) (a b:Cd) (ha:GnC a) (hb:GnC b):GnC (.mk 9 n rel val r st [a,b])
abbrev otH16:OT:=(.pure 0 (.pure 1 (.pure 2 (.pure 3 (.pure 4 (.pure 5 (.pure 6 (.pure 7 (.pure 8 (.pure 9 .fin))))))))))
abbrev otH25:OT:=(.pure 0 (.pure 1 (.pure 2 (.pure 3 (.pure 4 (.pure 5 (.pure 6 (.pure 7 (.pure 8 (.pure 9 (.pure 10 (.pure 11 .fin))))))))))))
abbrev otH28:OT:=(.pure 0 (.pure 1 (.pure 2 (.pure 3 (.pure 4 (.pure 5 (.pure 6 (.pure 7 (.pure 8 (.pure 9 (.eff 10 [] (.pure 11 .fin) .nil)))))))))))
theorem icellG {l:List Int} {k:Nat} (h:k<l.length):(l.map i64)[k]?=some (i64 (l.getD k 0)):=map_at 0 h
theorem gleaf_c (l:List Mb) (idx:Int) (vals:List Int) (hl:l.length≤300) (hi:0≤idx∧idx≤1000) (hv:vals.length=l.length) (op n rel val:Int) (r:Rf) (st:List Int) (h0:op ≠ 0) (h7:op ≠ 7) (h8:op ≠ 8) (h9:op ≠ 9) (hr:-100000≤r.n∧r.n≤100000) (hs:st.length≤100):Pure cx 152 [mbs l,(Cd.mk op n rel val r st []).pv,i64 idx,ints vals] (·=.ret [.bool (leafG l idx vals op n rel val r st)]):=by
 have hS:=gnamed_c l r idx hl hi hr
 have hN:∀ i∈namedG l r idx,i<vals.length:=fun i h=>by rw [hv];exact(named_mem.1 h).1
 have hnl:(namedG l r idx).length≤300:=by
  have:=List.length_filter_le (fun i=>isG (l.getD i mb0) r idx) (List.range l.length)
  rw [List.length_range] at this
  exact Nat.le_trans this hl
 obtain⟨R,hR⟩:∃ R,R=leafG l idx vals op n rel val r st:=⟨_,rfl⟩
 rw [← hR]
 rw [leafG] at hR
 generalize namedG l r idx=N at hS hN hnl hR
 have hNm:(N.map fun i=>i64 ((i:Nat):Int)).length=N.length:=List.length_map ..
 have hvm:(vals.map i64).length=vals.length:=List.length_map ..
 obtain⟨rn,rm,rp,ri⟩:=r
 refine pure_of_vc Tryz.func152 rfl rfl rfl ?_
 refine And.intro (fun h=>absurd h h0) (fun _=>?_)
 refine And.intro (fun h=>absurd h h7) (fun _=>?_)
 refine And.intro (fun h=>absurd h h8) (fun _=>?_)
 refine And.intro (fun h=>absurd h h9) (fun _=>?_)
 refine hS.eq rfl ?_
 (first | refine brLt (fun o6=>?_) (fun o6=>?_) | refine brLe (fun o6=>?_) (fun o6=>?_) | refine brEq (fun o6=>?_) (fun o6=>?_))
 ·have o6:op=6:=o6
  rw [if_pos o6] at hR
  refine⟨Nat × Nat,fun x=>[(0, .p (mbs l)),(2, .p (i64 idx)),(3, .p (ints vals)),(5, .ptr 0 0 0),(9, .p (nats N)),(10, .p (i64 x.2)),(11, .p (i64 x.1))],fun _=>⟨1,[(0,cnO (.mk op n rel val ⟨rn,rm,rp,ri⟩ st []))]⟩,fun x=>x.1≤N.length∧x.2=((N.take x.1).filter fun i=>decide (vals.getD i 0=val)).length,fun x=>N.length - x.1,?_,?_⟩
  ·exact⟨(0,0),⟨Nat.zero_le _,rfl⟩,ent_of [] [] [] rfl (sk) (sk) rfl⟩
  rintro⟨k,c⟩ ⟨k1,k2⟩
  simp only [] at k1 k2
  have hc:c≤300:=by
   rw [k2]
   have:=List.length_filter_le (fun i=>decide (vals.getD i 0=val)) (N.take k)
   rw [List.length_take] at this;omega
  (first | refine brLt (fun m1=>?_) (fun m1=>?_) | refine brLe (fun m1=>?_) (fun m1=>?_) | refine brEq (fun m1=>?_) (fun m1=>?_))
  rotate_left
  ·have m1:¬ (k:Int)<((N.map fun i=>i64 ((i:Nat):Int)).length:Nat):=m1
   rw [hNm] at m1
   rw [take_all (by omega)] at k2
   rw [← k2] at hR
   refine(relation_c rel (c:Nat) n).eq rfl ?_
   exact end1 _ rfl rfl (retB hR.symm)
  have m1:(k:Int)<((N.map fun i=>i64 ((i:Nat):Int)).length:Nat):=m1
  rw [hNm] at m1
  have hk:k<N.length:=by omega
  have hcell:=ncell hk
  have hlt:=hN _ (getD_memL 0 hk)
  have hnx:((N.take (k+1)).filter fun i=>decide (vals.getD i 0=val)).length=c+(if vals.getD (N.getD k 0) 0=val then 1 else 0):=by
   rw [take_succ_getD 0 hk,List.filter_append,List.length_append,← k2]
   congr 1
   by_cases e:vals.getD (N.getD k 0) 0=val
   ·rw [if_pos e,List.filter_cons_of_pos (by exact decide_eq_true e)];rfl
   ·rw [if_neg e,List.filter_cons_of_neg (by rw [decide_eq_false e];decide)];rfl
  generalize N.getD k 0=y at hcell hlt hnx
  have hc2:=icellG (l:=vals) hlt
  generalize vals.getD y 0=z at hc2 hnx
  refine vdraw_ot otH16 (by kernel_rfl) ?_
  refine⟨_,⟨by omega,_,hcell,rfl⟩,?_⟩
  refine⟨_,⟨by omega,_,hc2,rfl⟩,?_⟩
  (first | refine brLt (fun e1=>?_) (fun e1=>?_) | refine brLe (fun e1=>?_) (fun e1=>?_) | refine brEq (fun e1=>?_) (fun e1=>?_))
  ·have e1:z=val:=e1
   rw [if_pos e1] at hnx
   refine⟨_,wrap_i64 (by omega) (by omega),?_⟩
   refine⟨_,wrap_i64 (by omega) (by omega),?_⟩
   exact⟨(k+1,c+1),⟨by show k+1≤N.length;omega,hnx.symm⟩,ent_of [] [] [] rfl (sk) (sk) rfl,by show N.length - (k+1)<N.length - k;omega⟩
  ·have e1:¬ z=val:=e1
   rw [if_neg e1] at hnx
   refine⟨_,wrap_i64 (by omega) (by omega),?_⟩
   exact⟨(k+1,c),⟨by show k+1≤N.length;omega,hnx.symm⟩,ent_of [] [] [] rfl (sk) (sk) rfl,by show N.length - (k+1)<N.length - k;omega⟩
 have o6:¬ op=6:=o6
 rw [if_neg o6] at hR
 cases N with
 | nil=>
  refine And.intro (fun _=>?_) (fun h=>absurd rfl h)
  exact end1 _ rfl rfl (retB hR.symm)
 | cons y N=>
  have hy:=hN y (List.mem_cons_self ..)
  have hc2:=icellG (l:=vals) hy
  simp only [] at hR
  generalize vals.getD y 0=z at hc2 hR
  refine And.intro (fun h=>absurd (show(((N.map fun i=>i64 ((i:Nat):Int)).length+1:Nat):Int)=0 from h) (by omega)) (fun _=>?_)
  (first | refine brLt (fun o5=>?_) (fun o5=>?_) | refine brLe (fun o5=>?_) (fun o5=>?_) | refine brEq (fun o5=>?_) (fun o5=>?_))
  rotate_left
  ·have o5:¬ op=5:=o5
   rw [if_neg o5] at hR
   refine vdraw_ot otH28 (by kernel_rfl) ?_
   refine⟨_,⟨by omega,_,rfl,rfl⟩,?_⟩
   refine⟨_,⟨by omega,_,hc2,rfl⟩,?_⟩
   refine(relation_c op z n).eq rfl ?_
   exact end1 _ rfl rfl (retB hR.symm)
  have o5:op=5:=o5
  rw [if_pos o5] at hR
  have hsm:(st.map i64).length=st.length:=List.length_map ..
  refine⟨Nat,fun k=>[(0, .p (mbs l)),(2, .p (i64 idx)),(3, .p (ints vals)),(5, .ptr 0 0 0),(9, .p (nats (y::N))),(12, .p (i64 k))],fun _=>⟨1,[(0,cnO (.mk op n rel val ⟨rn,rm,rp,ri⟩ st []))]⟩,fun k=>k≤st.length∧R=(st.drop k).any fun x=>decide (x=z),fun k=>st.length - k,?_,?_⟩
  ·exact⟨0,⟨Nat.zero_le _,hR⟩,ent_of [] [] [] rfl (sk) (sk) rfl⟩
  rintro k ⟨k1,k2⟩
  (first | refine brLt (fun m1=>?_) (fun m1=>?_) | refine brLe (fun m1=>?_) (fun m1=>?_) | refine brEq (fun m1=>?_) (fun m1=>?_))
  rotate_left
  ·have m1:¬ (k:Int)<((st.map i64).length:Nat):=m1
   rw [hsm] at m1
   rw [List.drop_eq_nil_of_le (by omega)] at k2
   exact end1 _ rfl rfl (retB k2.symm)
  have m1:(k:Int)<((st.map i64).length:Nat):=m1
  rw [hsm] at m1
  have hk:k<st.length:=by omega
  have hcell:=icellG hk
  rw [dropD 0 hk,List.any_cons] at k2
  generalize st.getD k 0=x at hcell k2
  refine vdraw_ot otH25 (by kernel_rfl) ?_
  refine⟨_,⟨by omega,_,hcell,rfl⟩,?_⟩
  refine⟨_,⟨by omega,_,rfl,rfl⟩,?_⟩
  refine⟨_,⟨by omega,_,hc2,rfl⟩,?_⟩
  (first | refine brLt (fun e1=>?_) (fun e1=>?_) | refine brLe (fun e1=>?_) (fun e1=>?_) | refine brEq (fun e1=>?_) (fun e1=>?_))
  ·have e1:x=z:=e1
   rw [decide_eq_true e1,Bool.true_or] at k2
   exact end1 _ rfl rfl (retB k2.symm)
  ·have e1:¬ x=z:=e1
   rw [decide_eq_false e1,Bool.false_or] at k2
   refine⟨_,wrap_i64 (by omega) (by omega),?_⟩
   exact⟨k+1,⟨by omega,k2⟩,ent_of [] [] [] rfl (sk) (sk) rfl,by show st.length - (k+1)<st.length - k;omega⟩
theorem gholds_c (l:List Mb) (idx:Int) (vals:List Int) (hl:l.length≤300) (hi:0≤idx∧idx≤1000) (hv:vals.length=l.length) {c:Cd} (h:GnC c):Pure cx 152 [mbs l,c.pv,i64 idx,ints vals] (·=.ret [.bool (holdsG l idx vals c)]):=by
 induction h with
 | no n rel val r st=>
  obtain⟨rn,rm,rp,ri⟩:=r
  rw [holdsG,if_pos rfl]
  refine pure_of_vc Tryz.func152 rfl rfl rfl ?_
  refine And.intro (fun _=>?_) (fun h=>absurd rfl h)
  exact end1 _ rfl rfl rfl
 | leaf op n rel val r st h0 h7 h8 h9 hr hs=>
  rw [holdsG,if_neg h0,if_neg h7,if_neg h8,if_neg h9]
  exact gleaf_c l idx vals hl hi hv op n rel val r st h0 h7 h8 h9 hr hs
 | neg n rel val r st a ha ia=>
  obtain⟨rn,rm,rp,ri⟩:=r
  rw [holdsG,if_neg (by decide),if_pos rfl,holdsGs,holdsGs]
  show Pure cx _ _ (·=.ret [.bool (!holdsG l idx vals a)])
  generalize holdsG l idx vals a=b at ia
  obtain⟨xo,xn,xr,xv,xf,xs,xa⟩:=a
  refine pure_of_vc Tryz.func152 rfl rfl rfl ?_
  refine And.intro (fun h=>absurd (show(7:Int)=0 from h) (by decide)) (fun _=>?_)
  refine And.intro (fun _=>?_) (fun h=>absurd rfl h)
  refine⟨_,⟨by omega,(Cd.mk xo xn xr xv xf xs xa).cells,rfl,rfl⟩,?_⟩
  refine ia.eq rfl ?_
  exact end1 _ rfl rfl rfl
 | conj n rel val r st a b ha hb ia ib=>
  obtain⟨rn,rm,rp,ri⟩:=r
  rw [holdsG,if_neg (by decide),if_neg (by decide),if_pos rfl,holdsGs,holdsGs,holdsGs]
  show Pure cx _ _ (·=.ret [.bool (holdsG l idx vals a && holdsG l idx vals b)])
  generalize holdsG l idx vals a=p at ia
  generalize holdsG l idx vals b=q at ib
  obtain⟨xo,xn,xr,xv,xf,xs,xa⟩:=a
  obtain⟨yo,yn,yr,yv,yf,ys,ya⟩:=b
  refine pure_of_vc Tryz.func152 rfl rfl rfl ?_
  refine And.intro (fun h=>absurd (show(8:Int)=0 from h) (by decide)) (fun _=>?_)
  refine And.intro (fun h=>absurd (show(8:Int)=7 from h) (by decide)) (fun _=>?_)
  refine And.intro (fun _=>?_) (fun h=>absurd rfl h)
  refine⟨_,⟨by omega,(Cd.mk xo xn xr xv xf xs xa).cells,rfl,rfl⟩,?_⟩
  refine ia.eq rfl ?_
  cases p
  ·exact end1 _ rfl rfl rfl
  ·refine⟨_,⟨by omega,(Cd.mk yo yn yr yv yf ys ya).cells,rfl,rfl⟩,?_⟩
   refine ib.eq rfl ?_
   exact end1 _ rfl rfl rfl
 | disj n rel val r st a b ha hb ia ib=>
  obtain⟨rn,rm,rp,ri⟩:=r
  rw [holdsG,if_neg (by decide),if_neg (by decide),if_neg (by decide),if_pos rfl,holdsGs,holdsGs,holdsGs]
  show Pure cx _ _ (·=.ret [.bool (holdsG l idx vals a || holdsG l idx vals b)])
  generalize holdsG l idx vals a=p at ia
  generalize holdsG l idx vals b=q at ib
  obtain⟨xo,xn,xr,xv,xf,xs,xa⟩:=a
  obtain⟨yo,yn,yr,yv,yf,ys,ya⟩:=b
  refine pure_of_vc Tryz.func152 rfl rfl rfl ?_
  refine And.intro (fun h=>absurd (show(9:Int)=0 from h) (by decide)) (fun _=>?_)
  refine And.intro (fun h=>absurd (show(9:Int)=7 from h) (by decide)) (fun _=>?_)
  refine And.intro (fun h=>absurd (show(9:Int)=8 from h) (by decide)) (fun _=>?_)
  refine And.intro (fun _=>?_) (fun h=>absurd rfl h)
  refine⟨_,⟨by omega,(Cd.mk xo xn xr xv xf xs xa).cells,rfl,rfl⟩,?_⟩
  refine ia.eq rfl ?_
  cases p
  ·refine⟨_,⟨by omega,(Cd.mk yo yn yr yv yf ys ya).cells,rfl,rfl⟩,?_⟩
   refine ib.eq rfl ?_
   exact end1 _ rfl rfl rfl
  ·exact end1 _ rfl rfl rfl
structure GnS (cs:List Cs):Prop where
 len:cs.length≤100
 cond:∀ c∈cs,GnC c.cond
 nums:∀ c∈cs,c.nums.length≤100
theorem numsG_cons (l:List Mb) (c:Cs) (cs:List Cs) (idx:Int) (vals:List Int):numsG l (c::cs) idx vals=if holdsG l idx vals c.cond=true then c.nums else numsG l cs idx vals:=by
 unfold numsG
 rw [List.find?_cons]
 by_cases h:holdsG l idx vals c.cond=true
 ·rw [if_pos h,h]
 ·rw [if_neg h];rw [Bool.not_eq_true] at h;rw [h]
theorem gnums_c (l:List Mb) (cs:List Cs) (idx:Int) (vals:List Int) (hl:l.length≤300) (hi:0≤idx∧idx≤1000) (hv:vals.length=l.length) (hc:GnS cs):Pure cx 108 [mbs l,css cs,i64 idx,ints vals] (·=.ret [ints (numsG l cs idx vals)]):=by
 have hm:(cs.map Cs.cells).length=cs.length:=List.length_map ..
 have hcl:=hc.len
 obtain⟨R,hR⟩:∃ R,R=numsG l cs idx vals:=⟨_,rfl⟩
 rw [← hR]
 refine pure_of_vc Tryz.func108 rfl rfl rfl ?_
 refine⟨Nat,fun k=>[(0, .p (mbs l)),(1, .p (css cs)),(2, .p (i64 idx)),(3, .p (ints vals)),(9, .p (i64 k))],fun _=>⟨0,[]⟩,fun k=>k≤cs.length∧R=numsG l (cs.drop k) idx vals,fun k=>cs.length - k,?_,?_⟩
 ·exact⟨0,⟨Nat.zero_le _,hR⟩,ent_of [] [] [] rfl (sk) (sk) rfl⟩
 rintro k ⟨k1,k2⟩
 (first | refine brLt (fun m1=>?_) (fun m1=>?_) | refine brLe (fun m1=>?_) (fun m1=>?_) | refine brEq (fun m1=>?_) (fun m1=>?_))
 rotate_left
 ·have m1:¬ (k:Int)<((cs.map Cs.cells).length:Nat):=m1
  rw [hm] at m1
  rw [List.drop_eq_nil_of_le (by omega)] at k2
  exact end1 (ints []) rfl (.inr (.inl rfl)) (by rw [k2];rfl)
 have m1:(k:Int)<((cs.map Cs.cells).length:Nat):=m1
 rw [hm] at m1
 have hk:k<cs.length:=by omega
 have hcell:=scell hk
 have hG:=hc.cond _ (getD_memL cs0 hk)
 have hn:=hc.nums _ (getD_memL cs0 hk)
 rw [dropD cs0 hk,numsG_cons] at k2
 generalize cs.getD k cs0=c at hcell hG hn k2
 have hS:=gholds_c l idx vals hl hi hv hG
 generalize holdsG l idx vals c.cond=b at hS k2
 obtain⟨⟨xo,xn,xr,xv,⟨rn,rm,rp,ri⟩,xs,xa⟩,nums⟩:=c
 have hn:nums.length≤100:=hn
 refine⟨_,⟨by omega,(Cs.mk (.mk xo xn xr xv ⟨rn,rm,rp,ri⟩ xs xa) nums).cells,hcell,rfl⟩,?_⟩
 refine hS.eq rfl ?_
 cases b
 ·rw [if_neg (by decide)] at k2
  refine⟨_,wrap_i64 (by omega) (by omega),?_⟩
  exact⟨k+1,⟨by omega,k2⟩,ent_of [] [] [] rfl (sk) (sk) rfl,by show cs.length - (k+1)<cs.length - k;omega⟩
 ·rw [if_pos rfl] at k2
  refine⟨_,⟨by omega,(Cs.mk (.mk xo xn xr xv ⟨rn,rm,rp,ri⟩ xs xa) nums).cells,hcell,rfl⟩,?_⟩
  have s6:(0+(nums.map i64).length) * 8≤140737488355328:=by rw [List.length_map];omega
  refine⟨by decide,[],rfl,s6,nums.map i64,rfl,?_⟩
  exact end1 (ints nums) rfl ⟨_,rfl,by show 0+(0+(nums.map i64).length)≤(nums.map i64).length;omega,takeAll (by simp)⟩ (by rw [k2])
theorem flat_snoc (f:Nat→List (List Int)) (n:Nat):(List.range (n+1)).flatMap f=(List.range n).flatMap f++f n:=by
 rw [List.range_succ,List.flatMap_append]
 show _++(f n++[])=_
 rw [List.append_nil]
theorem flatB_len {f:Nat→List (List Int)} {B:Nat} (h:∀ x,(f x).length≤B):∀ n,((List.range n).flatMap f).length≤n * B
 | 0=>by simp
 | n+1=>by
  rw [flat_snoc,List.length_append]
  have h1:=flatB_len h n
  have h2:=h n
  rw [Nat.add_mul];omega
theorem rowsG_len (l:List Mb) (cs:List Cs) (idx:Int):∀ (nodes:List Nat) (vals:List Int),(∀ i∈nodes,(l.getD i mb0).d.n≤4)→(rowsG l cs idx nodes vals).length≤4 ^ nodes.length
 | [],_,_=>by rw [rowsG];show 1≤4 ^ 0;decide
 | v::r,vals,h=>by
  rw [rowsG]
  have h4:=h v (List.mem_cons_self ..)
  have h5:=flatB_len (f:=fun x=>rowsG l cs idx r (vals.set v (x:Nat))) (B:=4 ^ r.length) (fun x=>rowsG_len l cs idx r _ fun i hi=>h i (List.mem_cons_of_mem _ hi)) ((l.getD v mb0).d.n).toNat
  rw [List.length_cons,Nat.pow_succ]
  exact Nat.le_trans h5 (by rw [Nat.mul_comm];exact Nat.mul_le_mul_left _ (by omega))
abbrev TGr:TypeId:=51
def fndG:List (List UInt8)→List UInt8→Nat→Option Nat
 | [],_,_=>none
 | x::r,nm,k=>if x=nm then some k else fndG r nm (k+1)
def findV (l:List (List UInt8)) (nm:List UInt8):List PV:=match fndG l nm 0 with
 | some k=>[i64 (k:Nat),i64 0]
 | none=>[i64 0,i64 4]
theorem scellG {l:List (List UInt8)} {k:Nat} (h:k<l.length):(l.map PV.str)[k]?=some (.str (l.getD k [])):=map_at [] h
deriving instance DecidableEq for Nd, Ut, Gr
abbrev TNd:TypeId:=72
structure NdZ (x:Nd):Prop where
 pars:x.pars.length≤1000000
 rows:x.rows.length≤1000000
 row:∀ r∈x.rows,r.length≤1000000
theorem rwcell {l:List (List Int)} {k:Nat} (h:k<l.length):(l.map ints)[k]?=some (ints (l.getD k [])):=map_at [] h
def rwO (l:List (List Int)):AObj:=⟨31,false, .pu (l.map ints)⟩
def vlO (l:List Int):AObj:=⟨TN,false, .pu (l.map i64)⟩
theorem grows_c (l:List Mb) (cs:List Cs) (idx:Int) (hl:l.length≤300) (hi:0≤idx∧idx≤1000) (hc:GnS cs):∀ (nodes:List Nat) (vals:List Int),vals.length=l.length→(∀ i∈nodes,i<l.length∧(l.getD i mb0).d.n≤4)→nodes.length≤8→Pure cx 68 [mbs l,css cs,i64 idx,nats nodes,ints vals] (·=.ret [rowl (rowsG l cs idx nodes vals)])
 | [],vals,hv,_,_=>by
  have hN:=gnums_c l cs idx vals hl hi hv hc
  rw [rowsG]
  generalize numsG l cs idx vals=W at hN
  refine pure_of_vc Tryz.func68 rfl rfl rfl ?_
  refine And.intro (fun _=>?_) (fun h=>absurd rfl h)
  refine hN.eq rfl ?_
  exact end1 (rowl [W]) rfl ⟨_,rfl,by show 0+1≤1;omega,rfl⟩ rfl
 | v::r,vals,hv,hn,hr8=>by
  have IH:=fun x:Nat=>grows_c l cs idx hl hi hc r (vals.set v (x:Nat)) (by rw [List.length_set,hv]) (fun i h=>hn i (List.mem_cons_of_mem _ h)) (by rw [List.length_cons] at hr8;omega)
  obtain⟨hv1,hv4⟩:=hn v (List.mem_cons_self ..)
  have hlen:∀ m,m≤4→((List.range m).flatMap fun x=>rowsG l cs idx r (vals.set v (x:Nat))).length≤300000:=fun m hm=>by
   have h7:4 ^ r.length≤4 ^ 7:=Nat.pow_le_pow_right (by decide) (by rw [List.length_cons] at hr8;omega)
   have h5:=flatB_len (f:=fun x=>rowsG l cs idx r (vals.set v (x:Nat))) (B:=4 ^ 7) (fun x=>Nat.le_trans (rowsG_len l cs idx r _ fun i hi=>(hn i (List.mem_cons_of_mem _ hi)).2) h7) m
   have:m * 4 ^ 7≤4 * 4 ^ 7:=Nat.mul_le_mul_right _ hm
   omega
  have hnx:=flat_snoc fun x=>rowsG l cs idx r (vals.set v (x:Nat))
  have hvm:(vals.map i64).length=vals.length:=List.length_map ..
  have hcell:=mcell hv1
  obtain⟨R,hR⟩:∃ R,R=rowsG l cs idx (v::r) vals:=⟨_,rfl⟩
  rw [← hR]
  rw [rowsG] at hR
  generalize l.getD v mb0=m at hcell hv4 hR
  obtain⟨⟨dk,dn,dnm,dpl,drs,dcs⟩,mi,mn⟩:=m
  have hv4:dn≤4:=hv4
  simp only [] at hR
  refine pure_of_vc Tryz.func68 rfl rfl rfl ?_
  refine And.intro (fun h=>absurd (show(((r.map fun i=>i64 ((i:Nat):Int)).length+1:Nat):Int)=0 from h) (by omega)) (fun _=>?_)
  refine⟨Nat × List (List Int),fun x=>[(0, .p (mbs l)),(1, .p (css cs)),(2, .p (i64 idx)),(3, .p (nats (v::r))),(4, .p (ints vals)),(11, .sl 0 1 0 x.2.length),(12, .p (i64 x.1))],fun x=>⟨1,[(0,rwO x.2)]⟩,fun x=>x.1≤dn.toNat∧x.2=(List.range x.1).flatMap fun x=>rowsG l cs idx r (vals.set v (x:Nat)),fun x=>dn.toNat - x.1,?_,?_⟩
  ·exact⟨(0,[]),⟨Nat.zero_le _,rfl⟩,ent_of [] [] [(0,1)] rfl (sk) (sk) rfl⟩
  rintro⟨k,cur⟩ ⟨k1,k2⟩
  simp only [] at k1 k2
  have hcl:cur.length≤300000:=by rw [k2];exact hlen k (by omega)
  refine⟨_,⟨by omega,_,rfl,rfl⟩,?_⟩
  refine⟨_,⟨by omega,(Mb.mk ⟨dk,dn,dnm,dpl,drs,dcs⟩ mi mn).cells,hcell,rfl⟩,?_⟩
  (first | refine brLt (fun m1=>?_) (fun m1=>?_) | refine brLe (fun m1=>?_) (fun m1=>?_) | refine brEq (fun m1=>?_) (fun m1=>?_))
  rotate_left
  ·have m1:¬ (k:Int)<dn:=m1
   rw [show dn.toNat=k by omega,← k2] at hR
   exact end1 (rowl cur) rfl ⟨_,rfl,by show 0+cur.length≤(cur.map ints).length;simp,takeAll (by simp)⟩ (by rw [hR])
  have m1:(k:Int)<dn:=m1
  have s6:(0+(vals.map i64).length) * 8≤140737488355328:=by rw [List.length_map];omega
  refine⟨by decide,[],rfl,s6,vals.map i64,rfl,?_⟩
  refine⟨_,⟨by omega,_,rfl,rfl⟩,?_⟩
  refine⟨by show(0:Int)≤(v:Nat)∧((v:Nat):Int)<((0+(vals.map i64).length:Nat):Int);omega,?_⟩
  refine⟨by show 0+v<(vals.map i64).length;omega,?_⟩
  refine⟨by show(0:Int)≤1∧(1:Int)≤(((r.map fun i=>i64 ((i:Nat):Int)).length+1:Nat):Int);omega,?_⟩
  have hI:=IH k
  have hX:(rowsG l cs idx r (vals.set v (k:Nat))).length≤300000:=by
   have:=hlen (k+1) (by omega)
   rw [hnx,List.length_append] at this;omega
  have hk1:=hnx k
  rw [← k2] at hk1
  generalize rowsG l cs idx r (vals.set v (k:Nat))=X at hI hX hk1
  rw [show ints (vals.set v (k:Nat))=PV.lst ((vals.map i64).set (0+v) (i64 (k:Nat))) by rw [ints,List.map_set,Nat.zero_add]] at hI
  refine hI.uses [2] rfl ⟨_,_,rfl,rfl,_,_,rfl,rfl,_,_,rfl,rfl,_,_,rfl,rfl,_,_,rfl,⟨_,rfl,by show 0+(0+(vals.map i64).length)≤((vals.map i64).set _ _).length;rw [List.length_set];omega,takeAll (by rw [List.length_set];omega)⟩,rfl⟩ ?_
  refine⟨by show 0+cur.length≤(cur.map ints).length;simp,cur.map ints,takeAll (by simp),by show(cur.length+(X.map ints).length) * 24≤140737488355328;rw [List.length_map];omega,(cur++X).map ints,by rw [List.map_append],?_⟩
  refine⟨_,wrap_i64 (by omega) (by omega),?_⟩
  exact⟨(k+1,cur++X),⟨by show k+1≤dn.toNat;omega,hk1.symm⟩,ent_of [] [(0,3)] [] rfl ⟨rfl,rfl,rfl,rfl,rfl,congrArg (fun j:Nat=>AV.sl 3 1 0 j) (by rw [List.length_append,List.length_map]),rfl,trivial⟩ (sk) rfl,by show dn.toNat - (k+1)<dn.toNat - k;omega⟩
structure GrZ (g:Gr):Prop where
 names:g.names.length≤1000000
 nodes:g.nodes.length≤1000000
 node:∀ x∈g.nodes,NdZ x
 utils:g.utils.length≤1000000
 util:∀ x∈g.utils,x.vars.length≤1000000∧x.w.length≤1000000
end Go.Proofs.YtkegmchjobphdaaGreatDoor
namespace Go.Proofs.YtkegmchjobphdaaGreatDoor
open Go Y
set_option maxRecDepth 100000
set_option maxHeartbeats 4000000
inductive FitC (l:List De) (x:De):Cd→Prop
 | no (n rel val:Int) (r:Rf) (st:List Int):FitC l x (.mk 0 n rel val r st [])
 | leaf (op n rel val:Int) (r:Rf) (st:List Int) (hop:op=1∨op=2∨op=3∨op=4∨op=5∨op=6) (hr:r∈x.refs) (h3:r.mode=3 ↔ op=6) (hval:op=6→0≤val) (hst:st.length≤8) (hv:∀ k,valI l x r=some k→gstI op n val st<k):FitC l x (.mk op n rel val r st [])
 | neg (n rel val:Int) (r:Rf) (st:List Int) (a:Cd) (ha:FitC l x a):FitC l x (.mk 7 n rel val r st [a])
 | conj (n rel val:Int) (r:Rf) (st:List Int) (a b:Cd) (ha:FitC l x a) (hb:FitC l x b):FitC l x (.mk 8 n rel val r st [a,b])
 | disj (n rel val:Int) (r:Rf) (st:List Int) (a b:Cd) (ha:FitC l x a) (hb:FitC l x b):FitC l x (.mk 9 n rel val r st [a,b])
theorem testI_zero {l:List De} {d:De} {op n val:Int} {r:Rf} {st:List Int} (h:testI l d op n val r st=0):r∈d.refs∧(r.mode=3→op=6)∧∀ k,valI l d r=some k→gstI op n val st<k:=by
 unfold testI at h
 split at h
 ·omega
 ·rename_i h1
  split at h
  ·omega
  ·rename_i h2
   refine⟨by simpa using h1,fun e=>by omega,fun k hk=>?_⟩
   rw [hk] at h
   simp only [] at h
   split at h <;> omega
theorem fold1 {f:Nat→Cd→Option Nat} {a:Cd} {az:List Cd} {m k:Nat} (h:(a::az).foldlM f m=some k):∃ q,f m a=some q∧az.foldlM f q=some k:=by
 rw [List.foldlM_cons] at h
 cases hq:f m a with
 | none=>rw [hq] at h;cases h
 | some q=>rw [hq] at h;exact⟨q,rfl,h⟩
theorem fit_of (l:List De) (x:De):∀ (d:Nat) (c:Cd) (left k:Nat),condV d c left=some k→condI l x c=[]→FitC l x c
 | 0,_,_,_,h,_=>by rw [condV] at h;cases h
 | d+1, .mk op n rel val r st ar,left,k,h,hI=>by
  rw [condV] at h
  split at h
  ·cases h
  split at h
  rotate_left
  ·cases h
  rename_i hh
  unfold headB at hh
  split at hh
  ·simp only [Bool.and_eq_true,decide_eq_true_eq] at hh
   obtain⟨hl,ha⟩:=hh
   obtain rfl:=List.eq_nil_of_length_eq_zero ha
   rw [condI] at hI
   unfold leafB at hl
   split at hl
   ·rename_i hop
    simp only [Bool.and_eq_true,decide_eq_true_eq] at hl
    rw [if_neg (by omega),note_nil] at hI
    obtain⟨t1,t2,t3⟩:=testI_zero hI
    refine .leaf _ _ _ _ _ _ (by omega) t1 ⟨t2,fun e=>by omega⟩ (fun e=>by omega) (by rw [hl.2];simp) t3
   ·split at hl
    ·rename_i hop
     simp only [Bool.and_eq_true,decide_eq_true_eq,setB] at hl
     rw [if_neg (by omega),note_nil] at hI
     obtain⟨t1,t2,t3⟩:=testI_zero hI
     refine .leaf _ _ _ _ _ _ (by omega) t1 ⟨t2,fun e=>by omega⟩ (fun e=>by omega) hl.2.1.2 t3
    ·split at hl
     ·rename_i hop
      simp only [Bool.and_eq_true,decide_eq_true_eq,natB] at hl
      rw [if_neg (by omega),note_nil] at hI
      obtain⟨t1,t2,t3⟩:=testI_zero hI
      refine .leaf _ _ _ _ _ _ (by omega) t1 ⟨t2,fun _=>hl.1.1.1.1.1.2⟩ (fun e=>by omega) (by rw [hl.2];simp) t3
     ·cases hl
  ·rename_i hN
   simp only [Bool.and_eq_true,decide_eq_true_eq] at hh
   obtain⟨ha,_⟩:=hh
   unfold argsN at ha hN
   split at ha
   ·rename_i h7
    subst h7
    match ar,ha,h,hI with
    | [a],_,h,hI=>
     obtain⟨q,hq,_⟩:=fold1 h
     rw [condI] at hI
     exact .neg _ _ _ _ _ _ (fit_of l x d a _ _ hq (List.append_eq_nil_iff.1 hI).1)
   ·split at ha
    ·rename_i h89
     match ar,ha,h,hI with
     | [a,b],_,h,hI=>
      obtain⟨q,hq,h⟩:=fold1 h
      obtain⟨q2,hq2,_⟩:=fold1 h
      rw [condI,condIs] at hI
      have hI2:=List.append_eq_nil_iff.1 hI
      have hb:=(List.append_eq_nil_iff.1 hI2.2).1
      have hfa:=fit_of l x d a _ _ hq hI2.1
      have hfb:=fit_of l x d b _ _ hq2 hb
      rcases h89 with rfl | rfl
      ·exact .conj _ _ _ _ _ _ _ hfa hfb
      ·exact .disj _ _ _ _ _ _ _ hfa hfb
    ·rename_i h7 h89
     rw [if_neg h7,if_neg h89] at hN
     exact absurd rfl hN
theorem none_fit {l:List De} {x:De}:∀ {c:Cd},noneB c=true→FitC l x c
 | .mk op n rel val r st ar,h=>by
  simp only [noneB,Bool.and_eq_true,decide_eq_true_eq] at h
  obtain⟨⟨rfl,_⟩,h⟩:=h
  obtain rfl:=List.eq_nil_of_length_eq_zero h
  exact .no ..
theorem none_op:∀ {c:Cd},noneB c=true→∃ n rel val r st,c=.mk 0 n rel val r st []
 | .mk op n rel val r st ar,h=>by
  simp only [noneB,Bool.and_eq_true,decide_eq_true_eq] at h
  obtain⟨⟨rfl,_⟩,h⟩:=h
  obtain rfl:=List.eq_nil_of_length_eq_zero h
  exact⟨_,_,_,_,_,rfl⟩
theorem casesT_mem:∀ {l:List Cs},casesT l=true→∀ c∈l,numsB c.nums=true∧(noneB c.cond=true∨(condV 8 c.cond 30).isSome=true)
 | [],_,c,hc=>by cases hc
 | [x],h,c,hc=>by
  simp only [casesT,Bool.and_eq_true] at h
  rw [List.mem_singleton.1 hc]
  exact⟨h.1, .inl h.2⟩
 | x::y::r,h,c,hc=>by
  simp only [casesT,Bool.and_eq_true] at h
  rcases List.mem_cons.1 hc with rfl | hc
  ·exact⟨h.1.1, .inr h.1.2⟩
  ·exact casesT_mem (l:=y::r) h.2 c hc
theorem casesT_end:∀ {l:List Cs},casesT l=true→l ≠ []→∃ c∈l,noneB c.cond=true
 | [],_,h=>absurd rfl h
 | [x],h,_=>by
  simp only [casesT,Bool.and_eq_true] at h
  exact⟨x,List.mem_singleton.2 rfl,h.2⟩
 | x::y::r,h,_=>by
  simp only [casesT,Bool.and_eq_true] at h
  obtain⟨c,hc,e⟩:=casesT_end (l:=y::r) h.2 (by simp)
  exact⟨c,List.mem_cons_of_mem _ hc,e⟩
theorem casesI_mem {l:List De} {d:De} {g:Int} {cs:List Cs} (h:casesI l d g cs=[]):∀ c∈cs,condI l d c.cond=[]∧rowI d c.nums g=true:=by
 intro c hc
 rw [casesI,List.flatMap_eq_nil_iff] at h
 have h:=List.append_eq_nil_iff.1 (h c hc)
 refine⟨h.1,?_⟩
 by_cases hr:rowI d c.nums g=true
 ·exact hr
 ·rw [if_neg hr] at h;cases h.2
theorem memG_cons (p:List De) (d:De) (r:List De):memG p (d::r)=blkG p d++memG p r:=by rw [memG,List.flatMap_cons];rfl
section
variable {ds:List De} (h:FineP ds)
include h
theorem FineP.declB {j:Nat} (hj:j<ds.length):declB (ds.getD j de0)=true:=by
 have hv:=h.valid
 simp only [validB,Bool.and_eq_true] at hv
 exact List.all_eq_true.1 hv.2 _ (getD_memL de0 hj)
theorem FineP.casesB {j:Nat} (hj:j<ds.length) (hk:(ds.getD j de0).kind=3∨(ds.getD j de0).kind=5):casesB (ds.getD j de0).cases=true:=by
 have hd:=h.declB hj
 simp only [Go.Proofs.YtkegmchjobphdaaGreatDoor.declB,Bool.and_eq_true] at hd
 have h2:=hd.2
 unfold kindB at h2
 rcases hk with e | e
 ·rw [if_neg (by omega),if_neg (by omega),if_pos e] at h2
  simp only [Bool.and_eq_true] at h2
  exact h2.2
 ·rw [if_neg (by omega),if_neg (by omega),if_neg (by omega),if_neg (by omega),if_pos e] at h2
  simp only [Bool.and_eq_true] at h2
  exact h2.2
theorem FineP.casesI {j:Nat} (hj:j<ds.length) (hk:(ds.getD j de0).kind=3∨(ds.getD j de0).kind=5):casesI (ds.take j) (ds.getD j de0) (grainI ds) (ds.getD j de0).cases=[]:=by
 have h1:=h.one hj
 unfold oneI at h1
 rcases hk with e | e
 ·rw [if_neg (by omega),if_neg (by omega),if_pos e] at h1
  exact(List.append_eq_nil_iff.1 (List.append_eq_nil_iff.1 (List.append_eq_nil_iff.1 (List.append_eq_nil_iff.1 h1).2).2).2).2
 ·rw [if_neg (by omega),if_neg (by omega),if_neg (by omega),if_neg (by omega)] at h1
  exact(List.append_eq_nil_iff.1 h1).2
theorem FineP.case {j:Nat} (hj:j<ds.length) (hk:(ds.getD j de0).kind=3∨(ds.getD j de0).kind=5) {c:Cs} (hc:c∈(ds.getD j de0).cases):FitC (ds.take j) (ds.getD j de0) c.cond∧rowI (ds.getD j de0) c.nums (grainI ds)=true∧1≤c.nums.length∧c.nums.length≤8:=by
 have hB:=h.casesB hj hk
 simp only [Go.Proofs.YtkegmchjobphdaaGreatDoor.casesB,Bool.and_eq_true,decide_eq_true_eq] at hB
 obtain⟨h1,h2⟩:=casesT_mem hB.2 c hc
 obtain⟨h3,h4⟩:=casesI_mem (h.casesI hj hk) c hc
 simp only [numsB,Bool.and_eq_true,decide_eq_true_eq] at h1
 refine⟨?_,h4,h1.1.1,h1.1.2⟩
 rcases h2 with h2 | h2
 ·exact none_fit h2
 ·obtain⟨k,hk⟩:=Option.isSome_iff_exists.1 h2
  exact fit_of _ _ _ _ _ _ hk h3
theorem FineP.few {j:Nat} (hj:j<ds.length) (hk:(ds.getD j de0).kind=3∨(ds.getD j de0).kind=5):1≤(ds.getD j de0).cases.length∧(ds.getD j de0).cases.length≤12:=by
 have hB:=h.casesB hj hk
 simp only [Go.Proofs.YtkegmchjobphdaaGreatDoor.casesB,Bool.and_eq_true,decide_eq_true_eq] at hB
 exact hB.1
theorem FineP.last {j:Nat} (hj:j<ds.length) (hk:(ds.getD j de0).kind=3∨(ds.getD j de0).kind=5):∃ c∈(ds.getD j de0).cases,∃ n rel val r st,c.cond=.mk 0 n rel val r st []:=by
 have hB:=h.casesB hj hk
 simp only [Go.Proofs.YtkegmchjobphdaaGreatDoor.casesB,Bool.and_eq_true,decide_eq_true_eq] at hB
 obtain⟨c,hc,e⟩:=casesT_end hB.2 (fun e=>by rw [e] at hB;have:=hB.1.1;simp at this)
 exact⟨c,hc,none_op e⟩
theorem FineP.member {m:Mb} (hm:m∈memG ds ds):∃ j,j<ds.length∧m.d=ds.getD j de0∧((ds.getD j de0).kind=3∨(ds.getD j de0).kind=4)∧0≤m.idx∧m.idx<(lenG ds (ds.getD j de0):Nat)∧m∈blkG ds (ds.getD j de0):=by
 have _:=h
 obtain⟨d,hd,hb⟩:=List.mem_flatMap.1 hm
 obtain⟨j,hj,rfl⟩:=mem_at de0 hd
 have e:=blkG_d hb
 have hk:=(memG_d hm).2
 rw [e] at hk
 obtain⟨i,hi,rfl⟩:=mem_at mb0 hb
 have:=blk_idx hk hi
 exact⟨j,hj,e,hk,by rw [this.2];omega,by rw [this.2,lenG];omega,hb⟩
theorem FineP.card {m:Mb} (hm:m∈memG ds ds):2≤m.d.n∧m.d.n≤4:=by
 obtain⟨j,hj,e,hk,_⟩:=h.member hm
 rw [e]
 exact oneI_card (h.one hj) hk
theorem FineP.size6 {d:De} (hd:d∈ds):sizeG ds d.plate≤6:=by
 obtain⟨j,hj,rfl⟩:=mem_at de0 hd
 by_cases hp:(ds.getD j de0).plate=[]
 ·have key:∀ (l:List De),(∀ d∈l,d.kind=2→d.name ≠ [])→sizeG l []=0:=by
   intro l
   induction l with
   | nil=>intro _;rfl
   | cons x l ih=>
    intro hl
    rw [sizeG,if_neg (fun e=>hl x (List.mem_cons_self ..) e.1 e.2)]
    exact ih fun d hd=>hl d (List.mem_cons_of_mem _ hd)
  rw [hp,key ds fun d hd hk=>by
   obtain⟨i,hi,rfl⟩:=mem_at de0 hd
   exact(h.ok hi).name (.inl hk)]
  decide
 ·by_cases h3:(ds.getD j de0).kind=3
  ·obtain⟨u,_,_,hs,_,h6⟩:=h.size hj h3 hp
   rw [hs];exact h6
  ·exact absurd ((h.ok hj).plate h3) hp
theorem FineP.mem_len {k:Nat} (hk:k<ds.length):memI (ds.take k) (ds.getD k de0)=(blkG ds (ds.getD k de0)).length:=by
 unfold memI
 by_cases h3:(ds.getD k de0).kind=3
 ·rw [if_pos h3]
  by_cases hp:(ds.getD k de0).plate=[]
  ·rw [if_pos hp,← lenG,lenG_one (.inl h3) hp]
  ·rw [if_neg hp,← lenG,lenG_plate (.inl h3) hp]
   obtain⟨u,hu,hk2,hs,_⟩:=h.size hk h3 hp
   rw [hs,sizeV,hu]
   simp only [hk2,if_true]
 ·rw [if_neg h3]
  by_cases h4:(ds.getD k de0).kind=4
  ·rw [if_pos h4,← lenG,lenG_one (.inr h4) ((h.ok hk).plate h3)]
  ·rw [if_neg h4,blkG,if_neg (by omega)];rfl
theorem FineP.nodes:∀ n k,n+k=ds.length→nodesI (ds.take k) (ds.drop k)=(memG ds (ds.drop k)).length∧worldsI (ds.take k) (ds.drop k)=((memG ds (ds.drop k)).map fun m=>m.d.n.toNat).foldr (· * ·) 1:=by
 intro n
 induction n with
 | zero=>
  intro k hk
  rw [List.drop_eq_nil_of_le (by omega)]
  exact⟨rfl,rfl⟩
 | succ n ih=>
  intro k hk
  obtain⟨i1,i2⟩:=ih (k+1) (by omega)
  have hk':k<ds.length:=by omega
  rw [take_succ_getD de0 hk'] at i1 i2
  rw [dropD de0 hk',nodesI,worldsI,i1,i2,h.mem_len hk',memG_cons,List.length_append,List.map_append,List.foldr_append]
  refine⟨rfl,?_⟩
  have key:∀ (B:List Mb) (x:Nat),(∀ m∈B,m.d=ds.getD k de0)→(B.map fun m=>m.d.n.toNat).foldr (· * ·) x=(ds.getD k de0).n.toNat ^ B.length * x:=by
   intro B
   induction B with
   | nil=>intro x _;simp
   | cons m B ihB=>
    intro x hB
    rw [List.map_cons,List.foldr_cons,ihB x fun y hy=>hB y (List.mem_cons_of_mem _ hy),hB m (List.mem_cons_self ..),List.length_cons,Nat.pow_succ,Nat.mul_comm ((ds.getD k de0).n.toNat ^ B.length) (ds.getD k de0).n.toNat,Nat.mul_assoc]
  exact(key _ _ fun m hm=>blkG_d hm).symm
theorem FineP.eight:1≤(memG ds ds).length∧(memG ds ds).length≤8:=by
 have hb:=big_no (base_nil h.clean).2.2
 have:=(h.nodes ds.length 0 rfl).1
 rw [List.take_zero,List.drop_zero] at this
 omega
theorem FineP.len:2≤ds.length∧ds.length≤30:=by
 have h1:=(valid_dcs h.valid).1
 have h8:=h.eight.1
 refine⟨?_,h1⟩
 have hh:=(base_nil h.clean).1
 match ds,hh,h8 with
 | [],hh,h8=>cases hh
 | [d],hh,h8=>
  unfold headI at hh
  simp only [] at hh
  split at hh
  ·rename_i hk
   rw [memG,List.flatMap_cons,List.flatMap_nil,List.append_nil,blkG,if_neg (by omega)] at h8
   simp at h8
  ·cases hh
 | a::b::r,_,_=>simp
end
end Go.Proofs.YtkegmchjobphdaaGreatDoor
namespace Go.Proofs.YtkegmchjobphdaaGreatDoor
open Go Y
set_option maxRecDepth 100000
set_option maxHeartbeats 4000000
section
variable (card:Nat→Nat)
def combG:List Nat→List Int→List (List Int)
 | [],v=>[v]
 | x::r,v=>(List.range (card x)).flatMap fun c=>combG r (v.set x (c:Nat))
def stepG:List Nat→List Int→Bool × List Int
 | [],v=>(false,v)
 | x::r,v=>match stepG r v with
  | (true,u)=>(true,u)
  | (false,u)=>if u.getD x 0+1<(card x:Nat) then(true,u.set x (u.getD x 0+1)) else(false,u.set x 0)
end
theorem rows_comb (l:List Mb) (cs:List Cs) (idx:Int):∀ (nodes:List Nat) (v:List Int),rowsG l cs idx nodes v=(combG (fun i=>((l.getD i mb0).d.n).toNat) nodes v).map (numsG l cs idx)
 | [],v=>rfl
 | x::r,v=>by
  rw [rowsG,combG,List.map_flatMap]
  congr 1
  funext c
  exact rows_comb l cs idx r _
end Go.Proofs.YtkegmchjobphdaaGreatDoor
namespace Go.Proofs.YtkegmchjobphdaaGreatDoor
open Go Y
set_option maxRecDepth 100000
set_option maxHeartbeats 4000000
theorem leafG_congr {l:List Mb} {idx:Int} {v u:List Int} (h:∀ i,i<l.length→v.getD i 0=u.getD i 0) (op n rel val:Int) (r:Rf) (st:List Int):leafG l idx v op n rel val r st=leafG l idx u op n rel val r st:=by
 have hN:∀ i∈namedG l r idx,i<l.length:=fun i hi=>(named_mem.1 hi).1
 unfold leafG
 have e1:(namedG l r idx).filter (fun i=>decide (v.getD i 0=val))=(namedG l r idx).filter fun i=>decide (u.getD i 0=val):=List.filter_congr fun i hi=>by rw [h i (hN i hi)]
 rw [e1]
 split
 ·rfl
 ·cases hq:namedG l r idx with
  | nil=>rfl
  | cons i k=>
   have:=h i (hN i (by rw [hq];exact List.mem_cons_self ..))
   simp only [this]
mutual
theorem holdsG_congr {l:List Mb} {idx:Int} {v u:List Int} (h:∀ i,i<l.length→v.getD i 0=u.getD i 0):∀ c:Cd,holdsG l idx v c=holdsG l idx u c
 | .mk op n rel val r st ar=>by rw [holdsG,holdsG,holdsGs_congr h ar,leafG_congr h]
theorem holdsGs_congr {l:List Mb} {idx:Int} {v u:List Int} (h:∀ i,i<l.length→v.getD i 0=u.getD i 0):∀ c:List Cd,holdsGs l idx v c=holdsGs l idx u c
 | []=>rfl
 | c::r=>by rw [holdsGs,holdsGs,holdsG_congr h c,holdsGs_congr h r]
end
end Go.Proofs.YtkegmchjobphdaaGreatDoor
namespace Go.Proofs.YtkegmchjobphdaaGreatDoor
open Go Y
set_option maxRecDepth 100000
set_option maxHeartbeats 4000000
theorem wrapG {n:Nat} (h:n<18446744073709551616):(n:Int)=IntKind.u64.wrap (n:Int):=by
 simp [IntKind.wrap,IntKind.bits,IntKind.signed]
 omega
theorem bvG {n:Nat} (h:n<18446744073709551616):(BitVec.ofInt 64 (n:Int)).toNat=n:=by
 rw [BitVec.ofInt_natCast,BitVec.toNat_ofNat]
 exact Nat.mod_eq_of_lt h
theorem orG {a b:Nat} (ha:a<18446744073709551616) (hb:b<18446744073709551616):((a ||| b:Nat):Int)=IntKind.u64.wrap (((BitVec.ofInt 64 (a:Int) ||| BitVec.ofInt 64 (b:Int)).toNat:Nat):Int):=by
 rw [BitVec.toNat_or,bvG ha,bvG hb]
 exact wrapG (Nat.or_lt_two_pow (n:=64) ha hb)
theorem shlG {k:Nat} (hk:k<64):((2 ^ k:Nat):Int)=IntKind.u64.wrap (1 * 2 ^ (min ((k:Int)).toNat 64)):=by
 rw [Int.toNat_natCast,Nat.min_eq_left (by omega),Int.one_mul]
 have:(2:Nat) ^ k<2 ^ 64:=Nat.pow_lt_pow_right (by decide) hk
 have e:((2:Int) ^ k)=((2 ^ k:Nat):Int):=by norm_cast
 rw [e]
 exact wrapG this
theorem powG {k:Nat} (hk:k<64):2 ^ k<18446744073709551616:=Nat.pow_lt_pow_right (a:=2) (by decide) hk
theorem decG_app:∀ (a b:List Mb) (i:Nat),decG (a++b) i=decG a i+decG b (i+a.length)
 | [],b,i=>by rw [List.nil_append,decG,Nat.zero_add,List.length_nil,Nat.add_zero]
 | m::a,b,i=>by
  rw [List.cons_append,decG,decG,decG_app a b (i+1),List.length_cons,show i+(a.length+1)=i+1+a.length by omega];exact(Nat.add_assoc ..).symm
theorem decG_lt:∀ (a:List Mb) (i:Nat),decG a i+2 ^ i≤2 ^ (i+a.length)
 | [],i=>by rw [decG,Nat.zero_add];exact Nat.le_refl _
 | m::a,i=>by
  have h:=decG_lt a (i+1)
  have e:2 ^ (i+1)=2 ^ i * 2:=Nat.pow_succ ..
  rw [decG,List.length_cons,show i+(a.length+1)=i+1+a.length by omega]
  split <;> omega
theorem decG_snoc (l:List Mb) {k:Nat} (hk:k<l.length):decG (l.take (k+1)) 0=decG (l.take k) 0+(if (l.getD k mb0).d.kind=4 then 2 ^ k else 0):=by
 rw [take_succ_getD mb0 hk,decG_app,List.length_take,Nat.min_eq_left (by omega),Nat.zero_add,decG,decG,Nat.add_zero]
theorem decG_le (l:List Mb) {k:Nat} (hk:k≤l.length):decG (l.take k) 0<2 ^ k:=by
 have h:=decG_lt (l.take k) 0
 rw [List.length_take,Nat.min_eq_left hk,Nat.zero_add] at h
 omega
theorem or_two {a k:Nat} (h:a<2 ^ k):a ||| 2 ^ k=a+2 ^ k:=by
 have:=Nat.two_pow_add_eq_or_of_lt (i:=k) (b:=a) h 1
 rw [Nat.mul_one] at this
 rw [Nat.or_comm,← this,Nat.add_comm]
section
variable {ds:List De} (h:FineP ds)
include h
theorem FineP.refn {j:Nat} (hj:j<ds.length):(ds.getD j de0).refs.length≤8∧∀ r∈(ds.getD j de0).refs,-100000≤r.n∧r.n≤100000:=by
 have hd:=h.declB hj
 simp only [Go.Proofs.YtkegmchjobphdaaGreatDoor.declB,Bool.and_eq_true,decide_eq_true_eq] at hd
 refine⟨hd.1.1.2,fun r hr=>?_⟩
 obtain⟨k,_,_,_,_,h0,_,_,_,_,h9⟩:=h.ref hj hr
 exact⟨by omega,by omega⟩
theorem FineP.name_len {d:De} (hd:d∈ds):d.name.length≤10:=by
 obtain⟨j,hj,rfl⟩:=mem_at de0 hd
 have hd:=h.declB hj
 simp only [Go.Proofs.YtkegmchjobphdaaGreatDoor.declB,Bool.and_eq_true] at hd
 have h2:=hd.2
 unfold kindB at h2
 split at h2
 ·simp only [Bool.and_eq_true,decide_eq_true_eq] at h2
  rw [h2.1.1.1];decide
 ·split at h2
  ·simp only [Bool.and_eq_true,decide_eq_true_eq,nameN] at h2
   exact h2.1.1.1.1.1.1.2
  ·split at h2
   ·simp only [Bool.and_eq_true,decide_eq_true_eq,nameN] at h2
    exact h2.1.1.1.1.1.2
   ·split at h2
    ·simp only [Bool.and_eq_true,decide_eq_true_eq,nameN] at h2
     exact h2.1.1.1.1.1.2
    ·split at h2
     ·simp only [Bool.and_eq_true,decide_eq_true_eq] at h2
      rw [h2.1.1.2];decide
     ·cases h2
end
theorem holds_no (l:List Mb) (idx:Int) (vals:List Int) (n rel val:Int) (r:Rf) (st:List Int):holdsG l idx vals (.mk 0 n rel val r st [])=true:=by rw [holdsG,if_pos rfl]
theorem nums_case {l:List Mb} {cs:List Cs} {idx:Int} {vals:List Int} (h:∃ c∈cs,holdsG l idx vals c.cond=true):∃ c∈cs,numsG l cs idx vals=c.nums∧holdsG l idx vals c.cond=true:=by
 unfold numsG
 cases hf:cs.find? fun c=>holdsG l idx vals c.cond with
 | none=>
  obtain⟨c,hc,e⟩:=h
  have:=List.find?_eq_none.1 hf c hc
  rw [e] at this
  exact absurd rfl this
 | some c=>exact⟨c,List.mem_of_find?_eq_some hf,rfl,by have:=List.find?_some hf;exact this⟩
theorem FineP.nums {ds:List De} (h:FineP ds) {j:Nat} (hj:j<ds.length) (hk:(ds.getD j de0).kind=3∨(ds.getD j de0).kind=5) (l:List Mb) (idx:Int) (vals:List Int):∃ c∈(ds.getD j de0).cases,numsG l (ds.getD j de0).cases idx vals=c.nums∧holdsG l idx vals c.cond=true:=by
 obtain⟨c,hc,n,rel,val,r,st,e⟩:=h.last hj hk
 exact nums_case ⟨c,hc,by rw [e,holds_no]⟩
theorem FineP.rows {ds:List De} (h:FineP ds) {j:Nat} (hj:j<ds.length) (hk:(ds.getD j de0).kind=3∨(ds.getD j de0).kind=5) {l:List Mb} {idx:Int} {nodes:List Nat} {vals:List Int} {r:List Int} (hr:r∈rowsG l (ds.getD j de0).cases idx nodes vals):∃ c∈(ds.getD j de0).cases,r=c.nums:=by
 rw [rows_comb,List.mem_map] at hr
 obtain⟨v,_,rfl⟩:=hr
 obtain⟨c,hc,e,_⟩:=h.nums hj hk l idx v
 exact⟨c,hc,e⟩
end Go.Proofs.YtkegmchjobphdaaGreatDoor
namespace Go.Proofs.YtkegmchjobphdaaGreatDoor
open Go Y
set_option maxRecDepth 100000
set_option maxHeartbeats 40000000
theorem FitC.gn {l:List De} {x:De} (hr:∀ r∈x.refs,-100000≤r.n∧r.n≤100000) {c:Cd} (h:FitC l x c):GnC c:=by
 induction h with
 | no n rel val r st=>exact .no ..
 | leaf op n rel val r st hop hrr h3 hval hst hv=>exact .leaf _ _ _ _ _ _ (by omega) (by omega) (by omega) (by omega) (hr r hrr) (by omega)
 | neg n rel val r st a ha ia=>exact .neg _ _ _ _ _ _ ia
 | conj n rel val r st a b ha hb ia ib=>exact .conj _ _ _ _ _ _ _ ia ib
 | disj n rel val r st a b ha hb ia ib=>exact .disj _ _ _ _ _ _ _ ia ib
section
variable {ds:List De} (h:FineP ds)
include h
theorem FineP.gns {j:Nat} (hj:j<ds.length) (hk:(ds.getD j de0).kind=3∨(ds.getD j de0).kind=5):GnS (ds.getD j de0).cases:=
 ⟨by have:=h.few hj hk;omega,fun c hc=>(h.case hj hk hc).1.gn (h.refn hj).2,fun c hc=>by have:=h.case hj hk hc;omega⟩
end
abbrev rawG (l:List Mb) (m:Mb):List PV:=[i64 m.d.n,nats (parG l m.d.refs m.idx),if m.d.kind=4 then .nils else rowl (rowsG l m.d.cases m.idx (parG l m.d.refs m.idx) (zeroG l.length))]
theorem rawG_nil (l:List Mb) (m:Mb):NilDL (rawG l m) (nodeG l m).cells:=by
 refine⟨_,_,rfl,rfl,_,_,rfl, .refl _,_,_,rfl,?_,rfl⟩
 show NilD (if m.d.kind=4 then .nils else _) (rowl (if m.d.kind=4 then [] else _))
 split
 ·exact .inr (.inl rfl)
 ·exact .refl _
theorem ground_nil (ds:List De):NilDL [strs ((memG ds ds).map Mb.name),i64 (ds.getD 0 de0).n, .lsts 3 ((memG ds ds).map (rawG (memG ds ds))), .int .u64 (decG (memG ds ds) 0:Nat), .lsts 2 ((ds.filter fun d=>decide (d.kind=5)).map fun d=>(utilG (memG ds ds) d).cells)] (groundG ds).cells:=by
 refine⟨_,_,rfl, .refl _,_,_,rfl, .refl _,_,_,rfl,?_,_,_,rfl, .refl _,_,_,rfl,?_,rfl⟩
 ·show NilD (.lsts 3 _) (.lsts 3 (((memG ds ds).map (nodeG (memG ds ds))).map Nd.cells))
  have key:∀ l:List Mb,NilDLL (l.map (rawG (memG ds ds))) ((l.map (nodeG (memG ds ds))).map Nd.cells):=by
   intro l
   induction l with
   | nil=>rfl
   | cons m l ih=>exact⟨_,_,rfl,rawG_nil _ m,ih⟩
  exact⟨_,rfl,key _⟩
 ·show NilD _ (.lsts 2 (((ds.filter fun d=>decide (d.kind=5)).map (utilG (memG ds ds))).map Ut.cells))
  rw [List.map_map];exact .refl _
def gbO (n1 a n2 b n3 c:Nat) (gr dec:Int):AObj:=⟨TGr,false, .bx [.sl n1 1 0 a, .p (i64 gr), .sl n2 3 0 b, .p (.int .u64 dec), .sl n3 2 0 c]⟩
def nmO (l:List (List UInt8)):AObj:=⟨9,false, .pu (l.map .str)⟩
def ndsO (l:List (List PV)):AObj:=⟨TNd,false, .pus l⟩
def utsO (l:List Ut):AObj:=⟨78,false, .pus (l.map Ut.cells)⟩
def zgO:AObj:=⟨TGr,false, .bx [.p .nils, .p (i64 0), .p .nils, .p (.int .u64 0), .p .nils]⟩
def rndO (cs:List PV):AObj:=⟨TNd,false, .bx (cs.map .p)⟩
def ofH (ds:List De) (gr:Int) (nm:List (List UInt8)) (nd:List (List PV)) (ut:List Ut) (dec:Nat):Hp:=
 ⟨6,[(5,utsO ut),(4,ndsO nd),(3,nmO nm),(2,gbO 3 nm.length 4 nd.length 5 ut.length gr dec),(1,zgO),(0,scO ds)]⟩
abbrev otO7:OT:=(.pure 0 (.pure 1 (.pure 2 (.pure 3 (.pure 4 (.pure 5 (.pure 6 (.pure 7 (.eff 8 [] (.pure 9 (.eff 10 [] .fin .nil)) .nil)))))))))
abbrev otO11:OT:=(.pure 0 (.pure 1 (.pure 2 (.pure 3 (.pure 4 (.pure 5 (.pure 6 (.pure 7 (.pure 8 (.pure 9 (.pure 10 (.pure 11 (.pure 12 (.pure 13 (.pure 14 (.eff 15 [] (.pure 16 (.eff 17 [] .fin .nil)) .nil))))))))))))))))
abbrev otO23:OT:=(.pure 0 (.pure 1 (.pure 2 (.pure 3 (.pure 4 (.pure 5 (.pure 6 (.pure 7 (.pure 8 (.eff 9 [] (.pure 10 (.eff 11 [] .fin .nil)) .nil))))))))))
theorem zero_ints (n:Nat):(zeroG n).map i64=List.replicate n (i64 0):=by rw [zeroG,List.map_replicate]
theorem gof_c (ds:List De) (h:FineP ds):Pure cx 37 [srcV ds] (·=.ret [.agg (groundG ds).cells]):=by
 obtain⟨hl2,hl30⟩:=h.len
 obtain⟨he1,he8⟩:=h.eight
 have hM:=gmembers_c ds hl30 (fun d hd=>h.size6 hd) fun d hd=>by have:=h.name_len hd;omega
 have hds:(ds.map De.cells).length=ds.length:=List.length_map ..
 refine(?_:Pure cx 37 [srcV ds] (·=.ret [.agg [strs ((memG ds ds).map Mb.name),i64 (ds.getD 0 de0).n, .lsts 3 ((memG ds ds).map (rawG (memG ds ds))), .int .u64 (decG (memG ds ds) 0:Nat), .lsts 2 ((ds.filter fun d=>decide (d.kind=5)).map fun d=>(utilG (memG ds ds) d).cells)]])).nil ?_
 rotate_left
 ·exact⟨_,rfl,_,_,rfl,⟨_,rfl,ground_nil ds⟩,rfl⟩
 have hd0:=decell (l:=ds) (k:=0) (by omega)
 obtain⟨G,hG⟩:∃ G,G=(ds.getD 0 de0).n:=⟨_,rfl⟩
 rw [← hG]
 generalize hdz:ds.getD 0 de0=dz at hd0 hG
 obtain⟨zk,zn,znm,zpl,zrs,zcs⟩:=dz
 have hG:G=zn:=hG
 have hml:((memG ds ds).map Mb.cells).length=(memG ds ds).length:=List.length_map ..
 refine pure_of_vc Tryz.func37 rfl rfl rfl ?_
 refine hM.eq rfl ?_
 refine⟨_,⟨by omega,(De.mk zk zn znm zpl zrs zcs).cells,hd0,rfl⟩,?_⟩
 refine⟨by show(0:Int)≤(((memG ds ds).map Mb.cells).length:Nat)∧((((memG ds ds).map Mb.cells).length:Nat):Int)≤(((memG ds ds).map Mb.cells).length:Nat)∧((((memG ds ds).map Mb.cells).length:Nat):Int) * 8≤281474976710656∧((((memG ds ds).map Mb.cells).length:Nat):Int)≤281474976710656;omega,?_⟩
 refine⟨Nat × List (List UInt8) × List (List PV) × Nat,fun x=>[(1, .ptr 0 0 0),(2, .ptr 1 0 0),(3, .p (mbs (memG ds ds))),(4, .ptr 2 0 0),(5, .p (ints (zeroG (memG ds ds).length))),(6, .p (i64 x.1))],fun x=>ofH ds G x.2.1 x.2.2.1 [] x.2.2.2,
  fun x=>x.1≤(memG ds ds).length∧x.2.1=((memG ds ds).take x.1).map Mb.name∧x.2.2.1=((memG ds ds).take x.1).map (rawG (memG ds ds))∧x.2.2.2=decG ((memG ds ds).take x.1) 0,fun x=>(memG ds ds).length - x.1,?_,?_⟩
 ·refine⟨(0,[],[],0),⟨Nat.zero_le _,rfl,rfl,rfl⟩,ent_of [3] [(2,2)] [(3,1),(4,3),(5,2)] rfl ?_ ?_ rfl⟩
  ·refine⟨⟨rfl,rfl⟩,⟨rfl,rfl⟩,rfl,⟨rfl,rfl⟩,⟨_,rfl,?_,?_⟩,rfl,trivial⟩
   ·show 0+((((memG ds ds).map Mb.cells).length:Nat):Int).toNat≤(List.replicate _ _).length
    rw [List.length_replicate];omega
   ·show(zeroG (memG ds ds).length).map i64=((List.replicate _ _).drop 0).take _
    rw [zero_ints,List.drop_zero,List.take_of_length_le (by rw [List.length_replicate];exact Nat.le_refl _),hml];rfl
  ·subst hG;(exact sk)
 rintro⟨k,nm,nd,dec⟩ ⟨k1,k2,k3,k4⟩
 simp only [] at k1 k2 k3 k4
 (first | refine brLt (fun m1=>?_) (fun m1=>?_) | refine brLe (fun m1=>?_) (fun m1=>?_) | refine brEq (fun m1=>?_) (fun m1=>?_))
 ·have m1:(k:Int)<(((memG ds ds).map Mb.cells).length:Nat):=m1
  rw [hml] at m1
  have hk:k<(memG ds ds).length:=by omega
  have hcell:=mcell hk
  have hmm:=getD_memL mb0 hk
  have hnx3:=decG_snoc (memG ds ds) hk
  have hlt:=decG_le (memG ds ds) k1
  have hnx1:((memG ds ds).take (k+1)).map Mb.name=((memG ds ds).take k).map Mb.name++[((memG ds ds).getD k mb0).name]:=by rw [take_succ_getD mb0 hk,List.map_append];rfl
  have hnx2:((memG ds ds).take (k+1)).map (rawG (memG ds ds))=((memG ds ds).take k).map (rawG (memG ds ds))++[rawG (memG ds ds) ((memG ds ds).getD k mb0)]:=by rw [take_succ_getD mb0 hk,List.map_append];rfl
  have hnl:nm.length≤8:=by rw [k2,List.length_map,List.length_take];omega
  have hdl:nd.length≤8:=by rw [k3,List.length_map,List.length_take];omega
  obtain⟨j,hj,hje,hjk,hi0,hi6,_⟩:=h.member hmm
  have hcard:=h.card hmm
  obtain⟨hrl,hrn⟩:=h.refn hj
  have hidx:((memG ds ds).getD k mb0).idx≤1000:=by
   have:=blkG_len (p:=ds) (d:=ds.getD j de0) (h.size6 (getD_memL de0 hj))
   rw [lenG] at hi6;omega
  rw [← hje] at hrl hrn hjk
  have hP:=gparents_c (memG ds ds) ((memG ds ds).getD k mb0).d.refs ((memG ds ds).getD k mb0).idx (by omega) (by omega) ⟨hi0,hidx⟩ hrn
  have hpn:=par_nodup (memG ds ds) ((memG ds ds).getD k mb0).d.refs ((memG ds ds).getD k mb0).idx
  have hpl:=par_lt (l:=memG ds ds) (refs:=((memG ds ds).getD k mb0).d.refs) (idx:=((memG ds ds).getD k mb0).idx)
  have hp8:(parG (memG ds ds) ((memG ds ds).getD k mb0).d.refs ((memG ds ds).getD k mb0).idx).length≤8:=by
   have:=List.length_filter_le (fun i=>((memG ds ds).getD k mb0).d.refs.any fun r=>isG ((memG ds ds).getD i mb0) r ((memG ds ds).getD k mb0).idx) (List.range (memG ds ds).length)
   rw [List.length_range] at this
   exact Nat.le_trans this he8
  have hR:((memG ds ds).getD k mb0).d.kind=3→Pure cx 68 [mbs (memG ds ds),css ((memG ds ds).getD k mb0).d.cases,i64 ((memG ds ds).getD k mb0).idx,nats (parG (memG ds ds) ((memG ds ds).getD k mb0).d.refs ((memG ds ds).getD k mb0).idx),ints (zeroG (memG ds ds).length)] (·=.ret [rowl (rowsG (memG ds ds) ((memG ds ds).getD k mb0).d.cases ((memG ds ds).getD k mb0).idx (parG (memG ds ds) ((memG ds ds).getD k mb0).d.refs ((memG ds ds).getD k mb0).idx) (zeroG (memG ds ds).length))]):=fun e3=>by
   have hg:=h.gns hj (.inl (by rw [← hje];exact e3))
   rw [← hje] at hg
   exact grows_c (memG ds ds) _ _ (by omega) ⟨hi0,hidx⟩ hg _ _ (by rw [zeroG,List.length_replicate]) (fun i hi=>⟨hpl i hi,(h.card (getD_memL mb0 (hpl i hi))).2⟩) hp8
  clear hpn hpl
  rw [rawG] at hnx2
  generalize parG (memG ds ds) ((memG ds ds).getD k mb0).d.refs ((memG ds ds).getD k mb0).idx=PA at hP hR hnx2 hp8
  generalize rowsG (memG ds ds) ((memG ds ds).getD k mb0).d.cases ((memG ds ds).getD k mb0).idx PA (zeroG (memG ds ds).length)=RW at hR hnx2
  clear hje hi6
  generalize (memG ds ds).getD k mb0=m at hcell hnx1 hnx2 hnx3 hP hR hjk hi0 hidx hcard
  obtain⟨⟨dk,dn,dnm,dpl,drs,dcs⟩,mi,mn⟩:=m
  simp only [] at hnx1 hnx2 hnx3 hP hR hjk
  obtain⟨B,hB⟩:∃ B,B=2 ^ k:=⟨_,rfl⟩
  rw [← hB] at hnx3 hlt
  have hB64:B<18446744073709551616:=by rw [hB];exact powG (by omega)
  rw [← k4] at hnx3 hlt
  refine vdraw_ot otO7 (by kernel_rfl) ?_
  refine⟨_,⟨by omega,(Mb.mk ⟨dk,dn,dnm,dpl,drs,dcs⟩ mi mn).cells,hcell,rfl⟩,?_⟩
  refine⟨by show 0+nm.length≤(nm.map PV.str).length;simp,nm.map PV.str,takeAll (by simp),by show(nm.length+1) * 16≤140737488355328;omega,(nm++[mn]).map PV.str,by rw [List.map_append];rfl,?_⟩
  refine VDraw.altTo [(1, .ptr 0 0 0),(2, .ptr 1 0 0),(3, .p (mbs (memG ds ds))),(4, .ptr 2 0 0),(5, .p (ints (zeroG (memG ds ds).length))),(6, .p (i64 k)),(7, .ptr 7 0 0)] ⟨8,[(7,rndO [i64 dn,nats PA, .nils]),(6,nmO (nm++[mn])),(5,utsO []),(4,ndsO nd),(2,gbO 6 (nm.length+1) 4 nd.length 5 0 G dec),(1,zgO),(0,scO ds)]⟩ (by kernel_rfl) ?_ ?_
  ·refine⟨_,⟨by omega,(Mb.mk ⟨dk,dn,dnm,dpl,drs,dcs⟩ mi mn).cells,hcell,rfl⟩,?_⟩
   refine⟨_,⟨by omega,(Mb.mk ⟨dk,dn,dnm,dpl,drs,dcs⟩ mi mn).cells,hcell,rfl⟩,?_⟩
   refine⟨_,⟨by omega,(Mb.mk ⟨dk,dn,dnm,dpl,drs,dcs⟩ mi mn).cells,hcell,rfl⟩,?_⟩
   refine And.intro ?_ ?_
   ·refine hP.eq rfl ?_
    refine⟨(sk),?_⟩
    refine⟨(sk),?_⟩
    exact ent_of [] [] [] rfl (sk) (sk) rfl
   ·refine⟨(sk),?_⟩
    refine hP.eq rfl ?_
    refine⟨(sk),?_⟩
    exact ent_of [] [] [] rfl (sk) (sk) rfl
  refine⟨_,⟨by omega,(Mb.mk ⟨dk,dn,dnm,dpl,drs,dcs⟩ mi mn).cells,hcell,rfl⟩,?_⟩
  (first | refine brLt (fun k4d=>?_) (fun k4d=>?_) | refine brLe (fun k4d=>?_) (fun k4d=>?_) | refine brEq (fun k4d=>?_) (fun k4d=>?_))
  ·have k4d:dk=4:=k4d
   rw [if_pos k4d] at hnx2 hnx3
   have ho:=or_two (a:=dec) (k:=k) (by rw [← hB];exact hlt)
   rw [← hB] at ho
   rw [← ho] at hnx3
   refine⟨((k:Nat):Int),wrapG (by omega),?_⟩
   refine⟨by show(0:Int)≤k;omega,(B:Int),by rw [hB];exact shlG (by omega),?_⟩
   refine⟨((dec ||| B:Nat):Int),orG (by omega) hB64,?_⟩
   refine⟨by show 0+1≤1;omega,[[i64 dn,nats PA, .nils]],rfl,?_⟩
   refine⟨by show 0+nd.length≤nd.length;omega,nd,takeAll rfl,by show(nd.length+1) * 56≤140737488355328;omega,nd++[[i64 dn,nats PA, .nils]],rfl,?_⟩
   refine⟨_,wrap_i64 (by omega) (by omega),?_⟩
   refine⟨(k+1,nm++[mn],nd++[[i64 dn,nats PA, .nils]],(dec ||| B)),⟨by show k+1≤(memG ds ds).length;omega,by show nm++[mn]=_;rw [k2,hnx1],by show nd++[[i64 dn,nats PA, .nils]]=_;rw [k3,hnx2],hnx3.symm⟩,ent_of [] [(3,6),(4,9)] [] rfl (sk) ?_ rfl,by show(memG ds ds).length - (k+1)<(memG ds ds).length - k;omega⟩
   exact⟨⟨_,rfl,rfl,rfl,rfl⟩,⟨_,rfl,rfl,rfl,rfl⟩,⟨_,rfl,rfl,rfl,rfl⟩,⟨_,rfl,rfl,rfl,_,rfl,_,_,rfl,congrArg (fun j:Nat=>AV.sl 6 1 0 j) (snoc_len nm _).symm,_,_,rfl,rfl,_,_,rfl,congrArg (fun j:Nat=>AV.sl 9 3 0 j) (snoc_len nd _).symm,_,_,rfl,rfl,_,_,rfl,rfl,rfl⟩,⟨_,rfl,rfl,rfl,_,rfl,sk⟩,⟨_,rfl,rfl,rfl,_,rfl,sk⟩,trivial⟩
  ·have k4d:¬ dk=4:=k4d
   rw [if_neg k4d] at hnx2 hnx3
   have hR:=hR (by omega)
   rw [Nat.add_zero] at hnx3
   refine vdraw_ot otO11 (by kernel_rfl) ?_
   refine⟨_,⟨by omega,(Mb.mk ⟨dk,dn,dnm,dpl,drs,dcs⟩ mi mn).cells,hcell,rfl⟩,?_⟩
   refine⟨_,⟨by omega,(Mb.mk ⟨dk,dn,dnm,dpl,drs,dcs⟩ mi mn).cells,hcell,rfl⟩,?_⟩
   refine hR.eq rfl ?_
   refine⟨by show 0+1≤1;omega,[[i64 dn,nats PA,rowl RW]],rfl,?_⟩
   refine⟨by show 0+nd.length≤nd.length;omega,nd,takeAll rfl,by show(nd.length+1) * 56≤140737488355328;omega,nd++[[i64 dn,nats PA,rowl RW]],rfl,?_⟩
   refine⟨_,wrap_i64 (by omega) (by omega),?_⟩
   refine⟨(k+1,nm++[mn],nd++[[i64 dn,nats PA,rowl RW]],dec),⟨by show k+1≤(memG ds ds).length;omega,by show nm++[mn]=_;rw [k2,hnx1],by show nd++[[i64 dn,nats PA,rowl RW]]=_;rw [k3,hnx2],hnx3.symm⟩,ent_of [] [(3,6),(4,9)] [] rfl (sk) ?_ rfl,by show(memG ds ds).length - (k+1)<(memG ds ds).length - k;omega⟩
   exact⟨⟨_,rfl,rfl,rfl,rfl⟩,⟨_,rfl,rfl,rfl,rfl⟩,⟨_,rfl,rfl,rfl,rfl⟩,⟨_,rfl,rfl,rfl,_,rfl,_,_,rfl,congrArg (fun j:Nat=>AV.sl 6 1 0 j) (snoc_len nm _).symm,_,_,rfl,rfl,_,_,rfl,congrArg (fun j:Nat=>AV.sl 9 3 0 j) (snoc_len nd _).symm,_,_,rfl,rfl,_,_,rfl,rfl,rfl⟩,⟨_,rfl,rfl,rfl,_,rfl,sk⟩,⟨_,rfl,rfl,rfl,_,rfl,sk⟩,trivial⟩
 have m1:¬ (k:Int)<(((memG ds ds).map Mb.cells).length:Nat):=m1
 rw [hml] at m1
 have hkn:k=(memG ds ds).length:=by omega
 subst hkn
 rw [take_all (Nat.le_refl _)] at k2 k3 k4
 rw [← k2,← k3,← k4]
 have hnl:nm.length≤8:=by rw [k2,List.length_map];omega
 have hdl:nd.length≤8:=by rw [k3,List.length_map];omega
 refine⟨Nat × List Ut,fun x=>[(1, .ptr 0 0 0),(2, .ptr 1 0 0),(3, .p (mbs (memG ds ds))),(4, .ptr 2 0 0),(5, .p (ints (zeroG (memG ds ds).length))),(8, .p (i64 x.1))],fun x=>ofH ds G nm nd x.2 dec,
  fun x=>x.1≤ds.length∧x.2=((ds.take x.1).filter fun d=>decide (d.kind=5)).map (utilG (memG ds ds)),fun x=>ds.length - x.1,?_,?_⟩
 ·exact⟨(0,[]),⟨Nat.zero_le _,rfl⟩,ent_of [] [] [] rfl (sk) (sk) rfl⟩
 rintro⟨i,ut⟩ ⟨i1,i2⟩
 simp only [] at i1 i2
 have hul:ut.length≤30:=by
  rw [i2,List.length_map]
  have:=List.length_filter_le (fun d:De=>decide (d.kind=5)) (ds.take i)
  rw [List.length_take] at this;omega
 (first | refine brLt (fun m2=>?_) (fun m2=>?_) | refine brLe (fun m2=>?_) (fun m2=>?_) | refine brEq (fun m2=>?_) (fun m2=>?_))
 rotate_left
 ·have m2:¬ (i:Int)<((ds.map De.cells).length:Nat):=m2
  rw [hds] at m2
  rw [take_all (by omega)] at i2
  have i3:ut.map Ut.cells=(ds.filter fun d=>decide (d.kind=5)).map fun d=>(utilG (memG ds ds) d).cells:=by rw [i2,List.map_map];rfl
  refine end1 (.agg [strs nm,i64 G, .lsts 3 nd, .int .u64 dec, .lsts 2 (ut.map Ut.cells)]) rfl ?_ (by rw [i3])
  exact⟨_,rfl,_,_,rfl,⟨_,rfl,by show 0+nm.length≤(nm.map PV.str).length;simp,takeAll (by simp)⟩,_,_,rfl,rfl,_,_,rfl,⟨_,rfl,by show 0+nd.length≤nd.length;omega,takeAll rfl⟩,_,_,rfl,rfl,_,_,rfl,⟨_,rfl,by show 0+ut.length≤(ut.map Ut.cells).length;simp,takeAll (by simp)⟩,rfl⟩
 have m2:(i:Int)<((ds.map De.cells).length:Nat):=m2
 rw [hds] at m2
 have hi:i<ds.length:=by omega
 have hcell:=decell hi
 have hnx:((ds.take (i+1)).filter fun d=>decide (d.kind=5)).map (utilG (memG ds ds))=ut++(if (ds.getD i de0).kind=5 then [utilG (memG ds ds) (ds.getD i de0)] else []):=by
  rw [take_succ_getD de0 hi,List.filter_append,List.map_append,← i2]
  congr 1
  by_cases e:(ds.getD i de0).kind=5
  ·rw [if_pos e,List.filter_cons_of_pos (by exact decide_eq_true e)];rfl
  ·rw [if_neg e,List.filter_cons_of_neg (by rw [decide_eq_false e];decide)];rfl
 obtain⟨hrl,hrn⟩:=h.refn hi
 have hP:=gparents_c (memG ds ds) (ds.getD i de0).refs 0 (by omega) (by omega) ⟨by omega,by omega⟩ hrn
 have hpl:=par_lt (l:=memG ds ds) (refs:=(ds.getD i de0).refs) (idx:=0)
 have hp8:(parG (memG ds ds) (ds.getD i de0).refs 0).length≤8:=by
  have:=List.length_filter_le (fun i'=>(ds.getD i de0).refs.any fun r=>isG ((memG ds ds).getD i' mb0) r 0) (List.range (memG ds ds).length)
  rw [List.length_range] at this
  exact Nat.le_trans this he8
 have hR:(ds.getD i de0).kind=5→Pure cx 68 [mbs (memG ds ds),css (ds.getD i de0).cases,i64 0,nats (parG (memG ds ds) (ds.getD i de0).refs 0),ints (zeroG (memG ds ds).length)] (·=.ret [rowl (rowsG (memG ds ds) (ds.getD i de0).cases 0 (parG (memG ds ds) (ds.getD i de0).refs 0) (zeroG (memG ds ds).length))]):=fun e5=>
  grows_c (memG ds ds) _ _ (by omega) ⟨by omega,by omega⟩ (h.gns hi (.inr e5)) _ _ (by rw [zeroG,List.length_replicate]) (fun i hi=>⟨hpl i hi,(h.card (getD_memL mb0 (hpl i hi))).2⟩) hp8
 have hrow:(ds.getD i de0).kind=5→∀ r∈rowsG (memG ds ds) (ds.getD i de0).cases 0 (parG (memG ds ds) (ds.getD i de0).refs 0) (zeroG (memG ds ds).length),1≤r.length:=fun e5 r hr=>by
  obtain⟨c,hc,rfl⟩:=h.rows hi (.inr e5) hr
  exact(h.case hi (.inr e5) hc).2.2.1
 have hrlen:(rowsG (memG ds ds) (ds.getD i de0).cases 0 (parG (memG ds ds) (ds.getD i de0).refs 0) (zeroG (memG ds ds).length)).length≤65536:=by
  have h1:=rowsG_len (memG ds ds) (ds.getD i de0).cases 0 (parG (memG ds ds) (ds.getD i de0).refs 0) (zeroG (memG ds ds).length) fun i hi=>(h.card (getD_memL mb0 (hpl i hi))).2
  exact Nat.le_trans h1 (Nat.le_trans (Nat.pow_le_pow_right (by decide) hp8) (by decide))
 clear hpl
 rw [utilG] at hnx
 generalize parG (memG ds ds) (ds.getD i de0).refs 0=PA at hP hR hnx hp8 hrow hrlen
 generalize rowsG (memG ds ds) (ds.getD i de0).cases 0 PA (zeroG (memG ds ds).length)=RW at hR hnx hrow hrlen
 generalize ds.getD i de0=d at hcell hnx hP hR hrow
 obtain⟨dk,dn,dnm,dpl,drs,dcs⟩:=d
 simp only [] at hnx hP hR hrow
 have hRm:(RW.map ints).length=RW.length:=List.length_map ..
 refine⟨_,⟨by omega,(De.mk dk dn dnm dpl drs dcs).cells,hcell,rfl⟩,?_⟩
 refine And.intro (fun k5=>?_) (fun k5=>?_)
 rotate_left
 ·have k5:¬ dk=5:=k5
  rw [if_neg k5,List.append_nil] at hnx
  refine⟨_,wrap_i64 (by omega) (by omega),?_⟩
  exact⟨(i+1,ut),⟨by show i+1≤ds.length;omega,hnx.symm⟩,ent_of [] [] [] rfl (sk) (sk) rfl,by show ds.length - (i+1)<ds.length - i;omega⟩
 have k5:dk=5:=k5
 rw [if_pos k5] at hnx
 have hR:=hR k5
 have hrow:=hrow k5
 refine hP.eq rfl ?_
 refine hR.eq rfl ?_
 refine⟨Nat × List Int,fun x=>[(1, .ptr 0 0 0),(2, .ptr 1 0 0),(3, .p (mbs (memG ds ds))),(4, .ptr 2 0 0),(5, .p (ints (zeroG (memG ds ds).length))),(8, .p (i64 i)),(10, .ptr 6 0 0),(11, .p (rowl RW)),(12, .p (i64 x.1))],
  fun x=>⟨8,[(7,vlO x.2),(6,⟨78,false, .bx [.p (nats PA), .sl 7 1 0 x.2.length]⟩),(5,utsO ut),(4,ndsO nd),(3,nmO nm),(2,gbO 3 nm.length 4 nd.length 5 ut.length G dec),(1,zgO),(0,scO ds)]⟩,
  fun x=>x.1≤RW.length∧x.2=(RW.take x.1).map fun w=>w.getD 0 0,fun x=>RW.length - x.1,?_,?_⟩
 ·exact⟨(0,[]),⟨Nat.zero_le _,rfl⟩,ent_of [] [(6,7)] [(7,1)] rfl (sk) (sk) rfl⟩
 rintro⟨q,w⟩ ⟨q1,q2⟩
 simp only [] at q1 q2
 have hwl:w.length≤65536:=by rw [q2,List.length_map,List.length_take];omega
 (first | refine brLt (fun m3=>?_) (fun m3=>?_) | refine brLe (fun m3=>?_) (fun m3=>?_) | refine brEq (fun m3=>?_) (fun m3=>?_))
 ·have m3:(q:Int)<((RW.map ints).length:Nat):=m3
  rw [hRm] at m3
  have hq:q<RW.length:=by omega
  have hc1:=rwcell hq
  have hne:=hrow _ (getD_memL [] hq)
  have hnw:(RW.take (q+1)).map (fun w=>w.getD 0 0)=w++[(RW.getD q []).getD 0 0]:=by rw [take_succ_getD [] hq,List.map_append,← q2];rfl
  have hc2:=icellG (l:=RW.getD q []) (k:=0) (by omega)
  generalize (RW.getD q []).getD 0 0=z at hc2 hnw
  generalize RW.getD q []=row at hc1 hc2
  refine vdraw_ot otO23 (by kernel_rfl) ?_
  refine⟨_,⟨by omega,_,hc1,rfl⟩,?_⟩
  refine⟨_,⟨by omega,_,hc2,rfl⟩,?_⟩
  refine⟨by show 0+w.length≤(w.map i64).length;simp,w.map i64,takeAll (by simp),by show(w.length+1) * 8≤140737488355328;omega,(w++[z]).map i64,by rw [List.map_append];rfl,?_⟩
  refine⟨_,wrap_i64 (by omega) (by omega),?_⟩
  refine⟨(q+1,w++[z]),⟨by show q+1≤RW.length;omega,hnw.symm⟩,ent_of [] [(7,8)] [] rfl (sk) ?_ rfl,by show RW.length - (q+1)<RW.length - q;omega⟩
  exact⟨⟨_,rfl,rfl,rfl,rfl⟩,⟨_,rfl,rfl,rfl,_,rfl,_,_,rfl,rfl,_,_,rfl,congrArg (fun j:Nat=>AV.sl 8 1 0 j) (snoc_len w _).symm,rfl⟩,⟨_,rfl,rfl,rfl,rfl⟩,⟨_,rfl,rfl,rfl,rfl⟩,⟨_,rfl,rfl,rfl,rfl⟩,⟨_,rfl,rfl,rfl,_,rfl,sk⟩,⟨_,rfl,rfl,rfl,_,rfl,sk⟩,⟨_,rfl,rfl,rfl,_,rfl,sk⟩,trivial⟩
 have m3:¬ (q:Int)<((RW.map ints).length:Nat):=m3
 rw [hRm] at m3
 rw [take_all (by omega)] at q2
 rw [← q2] at hnx
 refine And.intro (by show 0+1≤1;omega) (Exists.intro _ (And.intro rfl ?_))
 refine Or.inl ⟨[7],[[nats PA,ints w]],rfl,⟨_,_,rfl,⟨_,_,rfl,rfl,_,_,rfl,⟨_,rfl,by show 0+w.length≤(w.map i64).length;simp,takeAll (by simp)⟩,rfl⟩,rfl⟩,?_⟩
 refine⟨by show 0+ut.length≤(ut.map Ut.cells).length;simp,ut.map Ut.cells,takeAll (by simp),by show(ut.length+1) * 48≤140737488355328;omega,(ut++[Ut.mk PA w]).map Ut.cells,by rw [List.map_append];rfl,?_⟩
 refine⟨_,wrap_i64 (by omega) (by omega),?_⟩
 refine⟨(i+1,ut++[Ut.mk PA w]),⟨by show i+1≤ds.length;omega,hnx.symm⟩,ent_of [] [(5,9)] [] rfl (sk) ?_ rfl,by show ds.length - (i+1)<ds.length - i;omega⟩
 exact⟨⟨_,rfl,rfl,rfl,rfl⟩,⟨_,rfl,rfl,rfl,rfl⟩,⟨_,rfl,rfl,rfl,rfl⟩,⟨_,rfl,rfl,rfl,_,rfl,_,_,rfl,rfl,_,_,rfl,rfl,_,_,rfl,rfl,_,_,rfl,rfl,_,_,rfl,congrArg (fun j:Nat=>AV.sl 9 2 0 j) (snoc_len ut _).symm,rfl⟩,⟨_,rfl,rfl,rfl,_,rfl,sk⟩,⟨_,rfl,rfl,rfl,_,rfl,sk⟩,trivial⟩
end Go.Proofs.YtkegmchjobphdaaGreatDoor
namespace Go.Proofs.YtkegmchjobphdaaGreatDoor
open Go Y
set_option maxRecDepth 100000
set_option maxHeartbeats 40000000
abbrev TSym:TypeId:=240
def zsO:AObj:=⟨TSym,false, .bx [.p (.str []), .p (i64 0), .p (.str []), .p (i64 0), .p (i64 0)]⟩
def fnd (l:List De) (nm:List UInt8):Option Sy:=if nm=[] then none else(fstI l nm).map fun i=>symOf (l.take i) (l.getD i de0)
def fndV (l:List De) (nm:List UInt8):List PV:=match fnd l nm with
 | some s=>[.agg s.cells, .bool true]
 | none=>[.agg [.str [],i64 0, .str [],i64 0,i64 0], .bool false]
theorem fnd_some {l:List De} {nm:List UInt8} {d:De} (hn:nm ≠ []) (h:fstV l nm=some d):∃ a,fnd l nm=some (symOf a d):=by
 rw [fstV] at h
 rw [fnd,if_neg hn]
 cases hi:fstI l nm with
 | none=>rw [hi] at h;cases h
 | some i=>
  rw [hi] at h
  injection h with h
  exact⟨l.take i,by rw [← h];rfl⟩
theorem fnd_none {l:List De} {nm:List UInt8} (h:fstV l nm=none):fnd l nm=none:=by
 rw [fstV] at h
 rw [fnd]
 cases hi:fstI l nm with
 | none=>split <;> rfl
 | some i=>rw [hi] at h;cases h
theorem rsize_of {l:List De} {nm:List UInt8} (hn:nm ≠ []) (h:Pure cx 127 [des l, .str nm] (·=.ret (fndV l nm))):Pure cx 131 [des l, .str nm] (·=.ret [i64 (sizeV l nm)]):=by
 rw [fndV] at h
 cases hv:fstV l nm with
 | none=>
  have hs:sizeV l nm=0:=by rw [sizeV,hv]
  rw [hs]
  rw [fnd_none hv] at h
  refine pure_of_vc Tryz.func131 rfl rfl rfl ?_
  refine h.eq rfl ?_
  exact end1 _ rfl rfl rfl
 | some d=>
  obtain⟨a,ha⟩:=fnd_some hn hv
  have hs:sizeV l nm=if d.kind=2 then d.n else 0:=by rw [sizeV,hv]
  rw [hs]
  rw [ha,symOf] at h
  by_cases k2:d.kind=2
  ·rw [if_pos k2]
   rw [if_pos k2] at h
   refine pure_of_vc Tryz.func131 rfl rfl rfl ?_
   refine h.eq rfl ?_
   refine And.intro (fun _=>?_) (fun h=>absurd rfl h)
   exact end1 _ rfl rfl rfl
  ·rw [if_neg k2]
   rw [if_neg k2] at h
   refine pure_of_vc Tryz.func131 rfl rfl rfl ?_
   refine h.eq rfl ?_
   refine And.intro (fun h=>absurd (show d.kind=2 from h) k2) (fun _=>?_)
   exact end1 _ rfl rfl rfl
abbrev otF8:OT:=(.pure 0 (.pure 1 (.pure 2 (.eff 3 [1] (.pure 4 (.eff 5 [] .fin .nil)) .nil))))
abbrev otF10:OT:=(.pure 0 (.pure 1 (.pure 2 (.pure 3 (.pure 4 (.eff 5 [] (.pure 6 (.eff 7 [] .fin .nil)) .nil))))))
theorem found_all:∀ (n:Nat) (l:List De) (nm:List UInt8),l.length≤n→l.length≤1000→(∀ d∈l,OkD d)→Pure cx 127 [des l, .str nm] (·=.ret (fndV l nm))
 | n,l,nm,hn,hl,hok=>by
  have IH:∀ m,m<l.length→∀ p,p ≠ []→Pure cx 131 [des (l.take m), .str p] (·=.ret [i64 (sizeV (l.take m) p)]):=fun m hm p hp=>by
   match n,hn with
   | 0,hn=>omega
   | n+1,hn=>exact rsize_of hp (found_all n (l.take m) p (by rw [List.length_take];omega) (by rw [List.length_take];omega) fun d hd=>hok d (List.mem_of_mem_take hd))
  have hm:(l.map De.cells).length=l.length:=List.length_map ..
  refine pure_of_vc Tryz.func127 rfl rfl rfl ?_
  refine⟨Nat,fun k=>[(0, .p (des l)),(1, .p (.str nm)),(4, .ptr 0 0 0),(6, .p (i64 k))],fun _=>⟨1,[(0,zsO)]⟩,fun k=>k≤l.length∧∀ x∈l.take k,¬ (x.name=nm∧¬ nm=[]),fun k=>l.length - k,?_,?_⟩
  ·exact⟨0,⟨Nat.zero_le _,by simp⟩,ent_of [] [] [] rfl (sk) (sk) rfl⟩
  rintro k ⟨k1,k2⟩
  (first | refine brLt (fun m1=>?_) (fun m1=>?_) | refine brLe (fun m1=>?_) (fun m1=>?_) | refine brEq (fun m1=>?_) (fun m1=>?_))
  rotate_left
  ·have m1:¬ (k:Int)<((l.map De.cells).length:Nat):=m1
   rw [hm] at m1
   rw [take_all (by omega)] at k2
   have hR:fnd l nm=none:=by
    rw [fnd]
    split
    ·rfl
    ·rename_i h0
     rw [fstI_none.2 fun x hx e=>k2 x hx ⟨e,h0⟩];rfl
   exact end2 (.agg [.str [],i64 0, .str [],i64 0,i64 0]) (.bool false) rfl rfl rfl (by rw [fndV,hR])
  have m1:(k:Int)<((l.map De.cells).length:Nat):=m1
  rw [hm] at m1
  have hk:k<l.length:=by omega
  have hcell:=decell hk
  have ho:=hok _ (getD_memL de0 hk)
  have hF:∀ nm',(l.getD k de0).name=nm'→nm'=nm→¬ nm=[]→fndV l nm=[.agg (symOf (l.take k) (l.getD k de0)).cells, .bool true]:=fun nm' e1 e2 h0=>by
   have hi:fstI l nm=some k:=by
    have ht:l=l.take k++(l.getD k de0::l.drop (k+1)):=by rw [← dropD de0 hk,List.take_append_drop]
    have hz:fstI (l.take k) nm=none:=fstI_none.2 fun x hx e=>k2 x hx ⟨e,h0⟩
    rw [ht,fstI_app,hz]
    show(fstI (l.getD k de0::l.drop (k+1)) nm).map (·+(l.take k).length)=some k
    rw [fstI,if_pos (e1.trans e2),List.length_take]
    show some (0+min k l.length)=some k
    rw [Nat.zero_add,Nat.min_eq_left (by omega)]
   rw [fndV,fnd,if_neg h0,hi];rfl
  have hnx:(¬ ((l.getD k de0).name=nm∧¬ nm=[]))→∀ x∈l.take (k+1),¬ (x.name=nm∧¬ nm=[]):=fun hx x hxm=>by
   rw [take_succ_getD de0 hk] at hxm
   rcases List.mem_append.1 hxm with hxm | hxm
   ·exact k2 x hxm
   ·rw [List.mem_singleton.1 hxm];exact hx
  have ih:=IH k hk
  generalize l.getD k de0=d at hcell ho hF hnx
  obtain⟨dk,dn,dnm,dpl,drs,dcs⟩:=d
  have hkind:=ho.kind
  have hbare:=ho.bare
  have hname:=ho.name
  have hplate:=ho.plate
  simp only [] at hkind hbare hname hplate hF hnx
  refine⟨_,⟨by omega,(De.mk dk dn dnm dpl drs dcs).cells,hcell,rfl⟩,?_⟩
  refine And.intro (fun e1=>?_) (fun e1=>?_)
  rotate_left
  ·have e1:¬ dnm=nm:=e1
   refine⟨_,wrap_i64 (by omega) (by omega),?_⟩
   exact⟨k+1,⟨by omega,hnx fun h=>e1 h.1⟩,ent_of [] [] [] rfl (sk) (sk) rfl,by show l.length - (k+1)<l.length - k;omega⟩
  have e1:dnm=nm:=e1
  rcases hkind with rfl | rfl | rfl | rfl | rfl
  ·refine And.intro (fun h=>absurd (show(1:Int)=2 from h) (by decide)) (fun _=>?_)
   refine And.intro (fun h=>absurd (show(1:Int)=3 from h) (by decide)) (fun _=>?_)
   refine And.intro (fun h=>absurd (show(1:Int)=4 from h) (by decide)) (fun _=>?_)
   refine⟨_,wrap_i64 (by omega) (by omega),?_⟩
   exact⟨k+1,⟨by omega,hnx fun h=>h.2 (e1.symm.trans (hbare (.inl rfl)))⟩,ent_of [] [] [] rfl (sk) (sk) rfl,by show l.length - (k+1)<l.length - k;omega⟩
  ·have h0:¬ nm=[]:=fun e=>hname (.inl rfl) (e1.trans e)
   have hR:=hF dnm rfl e1 h0
   rw [symOf,if_pos rfl] at hR
   have hp:=hplate (by decide)
   subst e1
   subst hp
   refine And.intro (fun _=>?_) (fun h=>absurd rfl h)
   refine And.intro (fun _=>?_) (fun h=>absurd rfl h)
   refine vdraw_ot otF8 (by kernel_rfl) ?_
   refine⟨sk,?_⟩
   exact end2 (.agg (Sy.cells (Sy.mk dnm 2 [] 0 dn))) (.bool true) rfl rfl rfl (by rw [hR])
  ·have h0:¬ nm=[]:=fun e=>hname (.inr (.inl rfl)) (e1.trans e)
   have hR:=hF dnm rfl e1 h0
   rw [symOf,if_neg (show ¬ (3:Int)=2 by decide)] at hR
   subst e1
   refine And.intro (fun h=>absurd (show(3:Int)=2 from h) (by decide)) (fun _=>?_)
   refine And.intro (fun _=>?_) (fun h=>absurd rfl h)
   refine And.intro (fun h=>absurd (show(3:Int)=2 from h) (by decide)) (fun _=>?_)
   refine And.intro (fun p0=>?_) (fun p0=>?_)
   ·have p0:dpl=[]:=p0
    simp only [if_pos p0] at hR
    exact end2 (.agg (Sy.cells (Sy.mk dnm 3 dpl dn 1))) (.bool true) rfl rfl rfl (by rw [hR])
   ·have p0:¬ dpl=[]:=p0
    simp only [if_neg p0] at hR
    have hS:=ih dpl p0
    have ea:[des (l.take k),PV.str dpl]=[PV.lsts 6 ((l.map De.cells).take ((k:Nat):Int).toNat), .str dpl]:=by show [PV.lsts 6 ((l.take k).map De.cells),_]=_;rw [List.map_take];rfl
    rw [ea] at hS
    generalize sizeV (l.take k) dpl=sz at hS hR
    refine vdraw_ot otF10 (by kernel_rfl) ?_
    refine⟨by show(0:Int)≤(k:Nat)∧((k:Nat):Int)≤((l.map De.cells).length:Nat);rw [hm];omega,?_⟩
    refine hS.eq rfl ?_
    exact end2 (.agg (Sy.cells (Sy.mk dnm 3 dpl dn sz))) (.bool true) rfl rfl rfl (by rw [hR])
  ·have h0:¬ nm=[]:=fun e=>hname (.inr (.inr rfl)) (e1.trans e)
   have hR:=hF dnm rfl e1 h0
   have hp:=hplate (by decide)
   rw [symOf,if_neg (show ¬ (4:Int)=2 by decide)] at hR
   simp only [if_pos hp] at hR
   subst e1
   refine And.intro (fun h=>absurd (show(4:Int)=2 from h) (by decide)) (fun _=>?_)
   refine And.intro (fun h=>absurd (show(4:Int)=3 from h) (by decide)) (fun _=>?_)
   refine And.intro (fun _=>?_) (fun h=>absurd rfl h)
   refine And.intro (fun h=>absurd (show(4:Int)=2 from h) (by decide)) (fun _=>?_)
   refine And.intro (fun _=>?_) (fun h=>absurd hp h)
   exact end2 (.agg (Sy.cells (Sy.mk dnm 4 dpl dn 1))) (.bool true) rfl rfl rfl (by rw [hR])
  ·refine And.intro (fun h=>absurd (show(5:Int)=2 from h) (by decide)) (fun _=>?_)
   refine And.intro (fun h=>absurd (show(5:Int)=3 from h) (by decide)) (fun _=>?_)
   refine And.intro (fun h=>absurd (show(5:Int)=4 from h) (by decide)) (fun _=>?_)
   refine⟨_,wrap_i64 (by omega) (by omega),?_⟩
   exact⟨k+1,⟨by omega,hnx fun h=>h.2 (e1.symm.trans (hbare (.inr rfl)))⟩,ent_of [] [] [] rfl (sk) (sk) rfl,by show l.length - (k+1)<l.length - k;omega⟩
theorem found_c (l:List De) (nm:List UInt8) (hl:l.length≤1000) (hok:∀ d∈l,OkD d):Pure cx 127 [des l, .str nm] (·=.ret (fndV l nm)):=found_all _ l nm (Nat.le_refl _) hl hok
theorem rsize_c (l:List De) {nm:List UInt8} (hn:nm ≠ []) (hl:l.length≤1000) (hok:∀ d∈l,OkD d):Pure cx 131 [des l, .str nm] (·=.ret [i64 (sizeV l nm)]):=rsize_of hn (found_c l nm hl hok)
theorem rown_c (d:De) (r:Rf):Pure cx 216 [d.pv,r.pv] (·=.ret [.bool (ownB d r)]):=by
 obtain⟨R,hR⟩:∃ R,R=ownB d r:=⟨_,rfl⟩
 rw [← hR]
 rw [ownB] at hR
 refine pure_of_vc Tryz.func216 rfl rfl rfl ?_
 (first | refine brLt (fun h1=>?_) (fun h1=>?_) | refine brLe (fun h1=>?_) (fun h1=>?_) | refine brEq (fun h1=>?_) (fun h1=>?_))
 rotate_left
 ·have h1:¬ d.kind=3:=h1
  exact end1 _ rfl rfl (retB (by rw [hR,decide_eq_false h1];rfl))
 have h1:d.kind=3:=h1
 rw [decide_eq_true h1] at hR
 (first | refine brLt (fun h2=>?_) (fun h2=>?_) | refine brLe (fun h2=>?_) (fun h2=>?_) | refine brEq (fun h2=>?_) (fun h2=>?_))
 ·have h2:d.plate=[]:=h2
  exact end1 _ rfl rfl (retB (by rw [hR,decide_eq_false (show ¬ ¬ d.plate=[] from fun h=>h h2)];rfl))
 have h2:¬ d.plate=[]:=h2
 rw [decide_eq_true h2] at hR
 (first | refine brLt (fun h3=>?_) (fun h3=>?_) | refine brLe (fun h3=>?_) (fun h3=>?_) | refine brEq (fun h3=>?_) (fun h3=>?_))
 rotate_left
 ·have h3:¬ r.name=d.name:=h3
  exact end1 _ rfl rfl (retB (by rw [hR,decide_eq_false h3];rfl))
 have h3:r.name=d.name:=h3
 rw [decide_eq_true h3] at hR
 (first | refine brLt (fun h4=>?_) (fun h4=>?_) | refine brLe (fun h4=>?_) (fun h4=>?_) | refine brEq (fun h4=>?_) (fun h4=>?_))
 rotate_left
 ·have h4:¬ r.mode=1:=h4
  exact end1 _ rfl rfl (retB (by rw [hR,decide_eq_false h4];rfl))
 have h4:r.mode=1:=h4
 rw [decide_eq_true h4] at hR
 (first | refine brLt (fun h5=>?_) (fun h5=>?_) | refine brLe (fun h5=>?_) (fun h5=>?_) | refine brEq (fun h5=>?_) (fun h5=>?_))
 rotate_left
 ·have h5:¬ r.plate=d.plate:=h5
  exact end1 _ rfl rfl (retB (by rw [hR,decide_eq_false h5];rfl))
 have h5:r.plate=d.plate:=h5
 rw [decide_eq_true h5] at hR
 (first | refine brLt (fun h6=>?_) (fun h6=>?_) | refine brLe (fun h6=>?_) (fun h6=>?_) | refine brEq (fun h6=>?_) (fun h6=>?_))
 ·have h6:1≤r.n:=h6
  exact end1 _ rfl rfl (retB (by rw [hR,decide_eq_true h6];rfl))
 ·have h6:¬ 1≤r.n:=h6
  exact end1 _ rfl rfl (retB (by rw [hR,decide_eq_false h6];rfl))
def skS (l:List De) (d:De) (r:Rf):Option Sy:=match fnd l r.name with
 | some s=>some s
 | none=>if ownB d r then some ⟨d.name,d.kind,d.plate,d.n,sizeV l d.plate⟩ else none
def skV (o:Option Sy):List PV:=match o with
 | some s=>[.agg s.cells, .bool true]
 | none=>[.agg [.str [],i64 0, .str [],i64 0,i64 0], .bool false]
abbrev otK3:OT:=(.pure 0 (.pure 1 (.pure 2 (.pure 3 (.pure 4 (.pure 5 (.pure 6 (.pure 7 (.pure 8 (.pure 9 (.pure 10 (.eff 11 [7,5,3,1] (.pure 12 (.eff 13 [] (.pure 14 .fin) .nil)) .nil))))))))))))
theorem rseek_c (l:List De) (d:De) (r:Rf) (hl:l.length≤1000) (hok:∀ d∈l,OkD d):Pure cx 181 [des l,d.pv,r.pv] (·=.ret (skV (skS l d r))):=by
 have hF:=found_c l r.name hl hok
 have hO:=rown_c d r
 rw [fndV] at hF
 rw [skS]
 cases hf:fnd l r.name with
 | some s=>
  rw [hf] at hF
  simp only [] at hF
  show Pure cx _ _ (·=.ret [.agg s.cells, .bool true])
  obtain⟨s1,s2,s3,s4,s5⟩:=s
  obtain⟨dk,dn,dnm,dpl,drs,dcs⟩:=d
  refine pure_of_vc Tryz.func181 rfl rfl rfl ?_
  refine hF.eq rfl ?_
  exact end2 (.agg (Sy.cells ⟨s1,s2,s3,s4,s5⟩)) (.bool true) rfl rfl rfl rfl
 | none=>
  rw [hf] at hF
  simp only [] at hF
  by_cases ho:ownB d r=true
  ·rw [ho] at hO
   have hp:=(own_iff.1 ho).2.1
   have hS:=rsize_c l hp hl hok
   simp only [if_pos ho,skV]
   generalize sizeV l d.plate=sz at hS
   obtain⟨dk,dn,dnm,dpl,drs,dcs⟩:=d
   refine pure_of_vc Tryz.func181 rfl rfl rfl ?_
   refine hF.eq rfl ?_
   refine hO.eq rfl ?_
   refine vdraw_ot otK3 (by kernel_rfl) ?_
   refine hS.eq rfl ?_
   refine⟨sk,?_⟩
   exact end2 (.agg (Sy.cells ⟨dnm,dk,dpl,dn,sz⟩)) (.bool true) rfl rfl rfl rfl
  ·simp only [if_neg ho,skV]
   rw [Bool.not_eq_true] at ho
   rw [ho] at hO
   obtain⟨dk,dn,dnm,dpl,drs,dcs⟩:=d
   refine pure_of_vc Tryz.func181 rfl rfl rfl ?_
   refine hF.eq rfl ?_
   refine hO.eq rfl ?_
   exact end2 (.agg [.str [],i64 0, .str [],i64 0,i64 0]) (.bool false) rfl rfl rfl rfl
abbrev otR14:OT:=(.pure 0 (.pure 1 (.pure 2 (.pure 3 (.pure 4 (.eff 5 [1] (.pure 6 .fin) .nil))))))
theorem scref_c (l:List De) (d:De) (r:Rf) (hn:r.name ≠ []) (hl:l.length≤1000) (hok:∀ d∈l,OkD d):Pure cx 128 [des l,d.pv,r.pv] (·=.ret [i64 (refI l d r)]):=by
 have hK:=rseek_c l d r hl hok
 obtain⟨R,hR⟩:∃ R,R=refI l d r:=⟨_,rfl⟩
 rw [← hR]
 rw [refI] at hR
 rw [skS] at hK
 cases hv:fstV l r.name with
 | none=>
  rw [fnd_none hv] at hK
  rw [hv] at hR
  simp only [] at hR hK
  by_cases ho:ownB d r=true
  ·rw [if_pos ho] at hR hK
   obtain⟨o1,o2,o3⟩:=own_iff.1 ho
   have o4:r.mode=1:=by rw [o3]
   have o5:r.plate=d.plate:=by rw [o3]
   generalize sizeV l d.plate=sz at hK
   rw [skV] at hK
   try simp only [] at hK
   obtain⟨dk,dn,dnm,dpl,drs,dcs⟩:=d
   obtain⟨rn,rm,rp,ri⟩:=r
   simp only [] at o1 o2 o4 o5
   subst o1
   subst o4
   refine pure_of_vc Tryz.func128 rfl rfl rfl ?_
   refine hK.eq rfl ?_
   refine And.intro (fun h=>absurd (show(3:Int)=2 from h) (by decide)) (fun _=>?_)
   refine And.intro (fun h=>absurd h o2) (fun _=>?_)
   refine And.intro (fun h=>absurd (show(1:Int)=0 from h) (by decide)) (fun _=>?_)
   refine And.intro (fun h=>absurd (show(1:Int)=2 from h) (by decide)) (fun _=>?_)
   refine And.intro (fun _=>?_) (fun h=>absurd rfl h)
   refine And.intro (fun _=>?_) (fun h=>absurd rfl h)
   refine And.intro (fun _=>?_) (fun h=>absurd rfl h)
   refine And.intro (fun _=>?_) (fun h=>absurd o5 h)
   exact end1 _ rfl rfl (retI hR.symm)
  ·rw [if_neg ho] at hR hK
   rw [skV] at hK
   try simp only [] at hK
   obtain⟨dk,dn,dnm,dpl,drs,dcs⟩:=d
   refine pure_of_vc Tryz.func128 rfl rfl rfl ?_
   refine hK.eq rfl ?_
   exact end1 _ rfl rfl (retI hR.symm)
 | some t=>
  obtain⟨a,ha⟩:=fnd_some hn hv
  have ht:=hok t (fstV_mem hv).1
  rw [ha] at hK
  rw [hv] at hR
  simp only [] at hR hK
  rw [skV,symOf] at hK
  rw [placeI] at hR
  by_cases k2:t.kind=2
  ·rw [if_pos k2] at hK
   simp only [if_pos k2] at hR
   try simp only [] at hK
   obtain⟨dk,dn,dnm,dpl,drs,dcs⟩:=d
   refine pure_of_vc Tryz.func128 rfl rfl rfl ?_
   refine hK.eq rfl ?_
   refine And.intro (fun _=>?_) (fun h=>absurd rfl h)
   exact end1 _ rfl rfl (retI hR.symm)
  have hS:=fun hp=>rsize_c l (nm:=t.plate) hp hl hok
  rw [if_neg k2] at hK
  simp only [if_neg k2] at hR
  try simp only [] at hK
  generalize (if t.plate=[] then 1 else sizeV a t.plate)=sz at hK
  obtain⟨dk,dn,dnm,dpl,drs,dcs⟩:=d
  obtain⟨rn,rm,rp,ri⟩:=r
  obtain⟨tk,tn,tnm,tpl,trs,tcs⟩:=t
  simp only [] at hR hK k2 hS
  clear hv ha ht
  refine pure_of_vc Tryz.func128 rfl rfl rfl ?_
  refine hK.eq rfl ?_
  refine And.intro (fun h=>absurd h k2) (fun _=>?_)
  (first | refine brLt (fun p0=>?_) (fun p0=>?_) | refine brLe (fun p0=>?_) (fun p0=>?_) | refine brEq (fun p0=>?_) (fun p0=>?_))
  ·have p0:tpl=[]:=p0
   rw [if_pos p0] at hR
   (first | refine brLt (fun m0=>?_) (fun m0=>?_) | refine brLe (fun m0=>?_) (fun m0=>?_) | refine brEq (fun m0=>?_) (fun m0=>?_))
   ·have m0:rm=0:=m0
    rw [decide_eq_false (show ¬ ¬ rm=0 from fun h=>h m0)] at hR
    exact end1 _ rfl rfl (retI hR.symm)
   ·have m0:¬ rm=0:=m0
    rw [decide_eq_true m0] at hR
    exact end1 _ rfl rfl (retI hR.symm)
  have p0:¬ tpl=[]:=p0
  rw [if_neg p0] at hR
  (first | refine brLt (fun m0=>?_) (fun m0=>?_) | refine brLe (fun m0=>?_) (fun m0=>?_) | refine brEq (fun m0=>?_) (fun m0=>?_))
  ·have m0:rm=0:=m0
   rw [if_pos m0] at hR
   exact end1 _ rfl rfl (retI hR.symm)
  have m0:¬ rm=0:=m0
  rw [if_neg m0] at hR
  (first | refine brLt (fun m2=>?_) (fun m2=>?_) | refine brLe (fun m2=>?_) (fun m2=>?_) | refine brEq (fun m2=>?_) (fun m2=>?_))
  ·have m2:rm=2:=m2
   rw [if_pos m2] at hR
   refine vdraw_ot otR14 (by kernel_rfl) ?_
   refine(hS p0).eq rfl ?_
   refine⟨sk,?_⟩
   (first | refine brLt (fun g1=>?_) (fun g1=>?_) | refine brLe (fun g1=>?_) (fun g1=>?_) | refine brEq (fun g1=>?_) (fun g1=>?_))
   ·have g1:sizeV l tpl≤ri:=g1
    rw [decide_eq_true g1] at hR
    exact end1 _ rfl rfl (retI hR.symm)
   ·have g1:¬ sizeV l tpl≤ri:=g1
    rw [decide_eq_false g1] at hR
    exact end1 _ rfl rfl (retI hR.symm)
  have m2:¬ rm=2:=m2
  rw [if_neg m2] at hR
  (first | refine brLt (fun m1=>?_) (fun m1=>?_) | refine brLe (fun m1=>?_) (fun m1=>?_) | refine brEq (fun m1=>?_) (fun m1=>?_))
  ·have m1:rm=1:=m1
   rw [if_pos m1] at hR
   (first | refine brLt (fun q1=>?_) (fun q1=>?_) | refine brLe (fun q1=>?_) (fun q1=>?_) | refine brEq (fun q1=>?_) (fun q1=>?_))
   rotate_left
   ·have q1:¬ dk=3:=q1
    rw [decide_eq_true (show ¬ (dk=3∧dpl=tpl∧rp=tpl) from fun h=>q1 h.1)] at hR
    exact end1 _ rfl rfl (retI hR.symm)
   have q1:dk=3:=q1
   (first | refine brLt (fun q2=>?_) (fun q2=>?_) | refine brLe (fun q2=>?_) (fun q2=>?_) | refine brEq (fun q2=>?_) (fun q2=>?_))
   rotate_left
   ·have q2:¬ dpl=tpl:=q2
    rw [decide_eq_true (show ¬ (dk=3∧dpl=tpl∧rp=tpl) from fun h=>q2 h.2.1)] at hR
    exact end1 _ rfl rfl (retI hR.symm)
   have q2:dpl=tpl:=q2
   (first | refine brLt (fun q3=>?_) (fun q3=>?_) | refine brLe (fun q3=>?_) (fun q3=>?_) | refine brEq (fun q3=>?_) (fun q3=>?_))
   ·have q3:rp=tpl:=q3
    rw [decide_eq_false (show ¬ ¬ (dk=3∧dpl=tpl∧rp=tpl) from fun h=>h ⟨q1,q2,q3⟩)] at hR
    exact end1 _ rfl rfl (retI hR.symm)
   ·have q3:¬ rp=tpl:=q3
    rw [decide_eq_true (show ¬ (dk=3∧dpl=tpl∧rp=tpl) from fun h=>q3 h.2.2)] at hR
    exact end1 _ rfl rfl (retI hR.symm)
  ·have m1:¬ rm=1:=m1
   rw [if_neg m1] at hR
   exact end1 _ rfl rfl (retI hR.symm)
abbrev otT5:OT:=(.pure 0 (.pure 1 (.pure 2 (.pure 3 (.pure 4 (.pure 5 (.pure 6 (.pure 7 (.pure 8 (.pure 9 (.pure 10 (.pure 11 .fin))))))))))))
theorem scrtest_c (l:List De) (d:De) {op n rel val:Int} {r:Rf} {st:List Int} {ar:List Cd} (hn:r.name ≠ []) (hst:op=5→1≤st.length) (hsl:st.length≤100) (hdr:d.refs.length≤100) (hl:l.length≤1000) (hok:∀ d∈l,OkD d):Pure cx 182 [des l,d.pv,(Cd.mk op n rel val r st ar).pv] (·=.ret [i64 (testI l d op n val r st)]):=by
 obtain⟨R,hR⟩:∃ R,R=testI l d op n val r st:=⟨_,rfl⟩
 rw [← hR]
 have hK:=rseek_c l d r hl hok
 obtain⟨dk,dn,dnm,dpl,drs,dcs⟩:=d
 have hdr:drs.length≤100:=hdr
 rw [testI,valI] at hR
 rw [skS] at hK
 cases hv:fstV l r.name with
 | none=>
  rw [fnd_none hv] at hK
  rw [hv] at hR
  simp only [] at hR hK
  by_cases ho:ownB ⟨dk,dn,dnm,dpl,drs,dcs⟩ r=true
  ·have hk3:dk=3:=(own_iff.1 ho).1
   have hk2:¬ dk=2:=by omega
   simp only [if_pos ho] at hR hK
   rw [skV] at hK
   try simp only [] at hK
   obtain⟨kk,hkk⟩:∃ kk,kk=dn:=⟨_,rfl⟩
   rw [← hkk] at hR
   generalize sizeV l dpl=sz at hK
   clear hv ho
   subst hkk
   refine pure_of_vc Tryz.func182 rfl rfl rfl ?_
   refine⟨Nat × Bool,fun x=>[(0, .p (des l)),(4, .ptr 0 0 0),(5, .ptr 1 0 0),(7, .p (.bool x.2)),(8, .p (i64 x.1))],fun _=>⟨2,[(1,cnO (.mk op n rel val r st ar)),(0,dcO ⟨dk,kk,dnm,dpl,drs,dcs⟩)]⟩,fun x=>x.1≤drs.length∧x.2=decide (r∈drs.take x.1),fun x=>drs.length - x.1,?_,?_⟩
   ·exact⟨(0,false),⟨Nat.zero_le _,by simp⟩,ent_of [] [] [] rfl (sk) (sk) rfl⟩
   rintro⟨k,b⟩ ⟨k1,k2⟩
   simp only [] at k1 k2
   (first | refine brLt (fun m1=>?_) (fun m1=>?_) | refine brLe (fun m1=>?_) (fun m1=>?_) | refine brEq (fun m1=>?_) (fun m1=>?_))
   ·have m1:(k:Int)<((drs.map Rf.cells).length:Nat):=m1
    rw [List.length_map] at m1
    have hk:k<drs.length:=by omega
    have hcell:=rcell hk
    have hnx:(r∈drs.take (k+1)) ↔ (r∈drs.take k∨r=drs.getD k rf0):=by rw [take_succ_getD rf0 hk,List.mem_append,List.mem_singleton]
    generalize drs.getD k rf0=x at hcell hnx
    cases b
    ·refine vdraw_ot otT5 (by kernel_rfl) ?_
     refine⟨_,⟨by omega,x.cells,hcell,rfl⟩,?_⟩
     refine⟨⟨by kernel_rfl,by kernel_rfl⟩,fun e1=>?_,fun e1=>?_⟩
     ·have e1:x=r:=rf_ext (by first | exact e1 | (injection e1))
      refine⟨_,wrap_i64 (by omega) (by omega),?_⟩
      exact⟨(k+1,true),⟨by show k+1≤drs.length;omega,(decide_eq_true (hnx.2 (.inr e1.symm))).symm⟩,ent_of [] [] [] rfl (sk) (sk) rfl,by show drs.length - (k+1)<drs.length - k;omega⟩
     ·have e1:¬ x=r:=fun e=>e1 (by rw [e])
      have hno:¬ r∈drs.take k:=of_decide_eq_false k2.symm
      refine⟨_,wrap_i64 (by omega) (by omega),?_⟩
      exact⟨(k+1,false),⟨by show k+1≤drs.length;omega,(decide_eq_false (fun h=>(hnx.1 h).elim hno fun e=>e1 e.symm)).symm⟩,ent_of [] [] [] rfl (sk) (sk) rfl,by show drs.length - (k+1)<drs.length - k;omega⟩
    ·have hyes:r∈drs.take k:=of_decide_eq_true k2.symm
     refine vdraw_ot otT5 (by kernel_rfl) ?_
     refine⟨_,wrap_i64 (by omega) (by omega),?_⟩
     exact⟨(k+1,true),⟨by show k+1≤drs.length;omega,(decide_eq_true (hnx.2 (.inl hyes))).symm⟩,ent_of [] [] [] rfl (sk) (sk) rfl,by show drs.length - (k+1)<drs.length - k;omega⟩
   have m1:¬ (k:Int)<((drs.map Rf.cells).length:Nat):=m1
   rw [List.length_map] at m1
   rw [take_all (by omega)] at k2
   cases b
   ·have hno:¬ r∈drs:=of_decide_eq_false k2.symm
    rw [if_pos hno] at hR
    exact end1 _ rfl rfl (retI hR.symm)
   have hmem:r∈drs:=of_decide_eq_true k2.symm
   rw [if_neg (fun h=>h hmem)] at hR
   (first | refine brLt (fun md=>?_) (fun md=>?_) | refine brLe (fun md=>?_) (fun md=>?_) | refine brEq (fun md=>?_) (fun md=>?_))
   ·have md:r.mode=3:=md
    (first | refine brLt (fun o6=>?_) (fun o6=>?_) | refine brLe (fun o6=>?_) (fun o6=>?_) | refine brEq (fun o6=>?_) (fun o6=>?_))
    rotate_left
    ·have o6:¬ op=6:=o6
     rw [if_pos ⟨md,o6⟩] at hR
     exact end1 _ rfl rfl (retI hR.symm)
    have o6:op=6:=o6
    rw [if_neg (fun h=>h.2 o6)] at hR
    (first | refine brLt (fun o5=>?_) (fun o5=>?_) | refine brLe (fun o5=>?_) (fun o5=>?_) | refine brEq (fun o5=>?_) (fun o5=>?_))
    ·have o5:op=5:=o5
     obtain⟨m,hm⟩:∃ m:Nat,st.length=m+1:=⟨st.length - 1,by have:=hst o5;omega⟩
     have hm1:((st.map i64).length:Int) - 1=(m:Nat):=by rw [List.length_map];omega
     have hmd:st.length - 1=m:=by omega
     refine⟨((m:Nat):Int),by show _=IntKind.i64.wrap (((st.map i64).length:Nat) - 1:Int);rw [hm1];exact wrap_i64 (by omega) (by omega),?_⟩
     refine⟨_,⟨by omega,i64 (st.getD m 0),icell (by omega),rfl⟩,?_⟩
     have hg:gstI op n val st=st.getD m 0:=by rw [gstI,if_pos o5,hmd]
     refine hK.eq rfl ?_
     refine And.intro (fun h=>absurd h hk2) (fun _=>?_)
     (first | refine brLt (fun w1=>?_) (fun w1=>?_) | refine brLe (fun w1=>?_) (fun w1=>?_) | refine brEq (fun w1=>?_) (fun w1=>?_))
     ·have w1:kk≤st.getD m 0:=w1
      exact end1 _ rfl rfl (retI (by rw [hR,hg,if_pos w1]))
     ·have w1:¬ kk≤st.getD m 0:=w1
      exact end1 _ rfl rfl (retI (by rw [hR,hg,if_neg w1]))
    have o5:¬ op=5:=o5
    (first | refine brLt (fun p6=>?_) (fun p6=>?_) | refine brLe (fun p6=>?_) (fun p6=>?_) | refine brEq (fun p6=>?_) (fun p6=>?_))
    ·have p6:op=6:=p6
     have hg:gstI op n val st=val:=by rw [gstI,if_neg o5,if_pos p6]
     refine hK.eq rfl ?_
     refine And.intro (fun h=>absurd h hk2) (fun _=>?_)
     (first | refine brLt (fun w1=>?_) (fun w1=>?_) | refine brLe (fun w1=>?_) (fun w1=>?_) | refine brEq (fun w1=>?_) (fun w1=>?_))
     ·have w1:kk≤val:=w1
      exact end1 _ rfl rfl (retI (by rw [hR,hg,if_pos w1]))
     ·have w1:¬ kk≤val:=w1
      exact end1 _ rfl rfl (retI (by rw [hR,hg,if_neg w1]))
    have p6:¬ op=6:=p6
    have hg:gstI op n val st=n:=by rw [gstI,if_neg o5,if_neg p6]
    refine hK.eq rfl ?_
    refine And.intro (fun h=>absurd h hk2) (fun _=>?_)
    (first | refine brLt (fun w1=>?_) (fun w1=>?_) | refine brLe (fun w1=>?_) (fun w1=>?_) | refine brEq (fun w1=>?_) (fun w1=>?_))
    ·have w1:kk≤n:=w1
     exact end1 _ rfl rfl (retI (by rw [hR,hg,if_pos w1]))
    ·have w1:¬ kk≤n:=w1
     exact end1 _ rfl rfl (retI (by rw [hR,hg,if_neg w1]))
   have md:¬ r.mode=3:=md
   rw [if_neg (fun h=>md h.1)] at hR
   (first | refine brLt (fun o5=>?_) (fun o5=>?_) | refine brLe (fun o5=>?_) (fun o5=>?_) | refine brEq (fun o5=>?_) (fun o5=>?_))
   ·have o5:op=5:=o5
    obtain⟨m,hm⟩:∃ m:Nat,st.length=m+1:=⟨st.length - 1,by have:=hst o5;omega⟩
    have hm1:((st.map i64).length:Int) - 1=(m:Nat):=by rw [List.length_map];omega
    have hmd:st.length - 1=m:=by omega
    refine⟨((m:Nat):Int),by show _=IntKind.i64.wrap (((st.map i64).length:Nat) - 1:Int);rw [hm1];exact wrap_i64 (by omega) (by omega),?_⟩
    refine⟨_,⟨by omega,i64 (st.getD m 0),icell (by omega),rfl⟩,?_⟩
    have hg:gstI op n val st=st.getD m 0:=by rw [gstI,if_pos o5,hmd]
    refine hK.eq rfl ?_
    refine And.intro (fun h=>absurd h hk2) (fun _=>?_)
    (first | refine brLt (fun w1=>?_) (fun w1=>?_) | refine brLe (fun w1=>?_) (fun w1=>?_) | refine brEq (fun w1=>?_) (fun w1=>?_))
    ·have w1:kk≤st.getD m 0:=w1
     exact end1 _ rfl rfl (retI (by rw [hR,hg,if_pos w1]))
    ·have w1:¬ kk≤st.getD m 0:=w1
     exact end1 _ rfl rfl (retI (by rw [hR,hg,if_neg w1]))
   have o5:¬ op=5:=o5
   (first | refine brLt (fun p6=>?_) (fun p6=>?_) | refine brLe (fun p6=>?_) (fun p6=>?_) | refine brEq (fun p6=>?_) (fun p6=>?_))
   ·have p6:op=6:=p6
    have hg:gstI op n val st=val:=by rw [gstI,if_neg o5,if_pos p6]
    refine hK.eq rfl ?_
    refine And.intro (fun h=>absurd h hk2) (fun _=>?_)
    (first | refine brLt (fun w1=>?_) (fun w1=>?_) | refine brLe (fun w1=>?_) (fun w1=>?_) | refine brEq (fun w1=>?_) (fun w1=>?_))
    ·have w1:kk≤val:=w1
     exact end1 _ rfl rfl (retI (by rw [hR,hg,if_pos w1]))
    ·have w1:¬ kk≤val:=w1
     exact end1 _ rfl rfl (retI (by rw [hR,hg,if_neg w1]))
   have p6:¬ op=6:=p6
   have hg:gstI op n val st=n:=by rw [gstI,if_neg o5,if_neg p6]
   refine hK.eq rfl ?_
   refine And.intro (fun h=>absurd h hk2) (fun _=>?_)
   (first | refine brLt (fun w1=>?_) (fun w1=>?_) | refine brLe (fun w1=>?_) (fun w1=>?_) | refine brEq (fun w1=>?_) (fun w1=>?_))
   ·have w1:kk≤n:=w1
    exact end1 _ rfl rfl (retI (by rw [hR,hg,if_pos w1]))
   ·have w1:¬ kk≤n:=w1
    exact end1 _ rfl rfl (retI (by rw [hR,hg,if_neg w1]))
  ·simp only [if_neg ho] at hR hK
   rw [skV] at hK
   try simp only [] at hK
   clear hv ho
   refine pure_of_vc Tryz.func182 rfl rfl rfl ?_
   refine⟨Nat × Bool,fun x=>[(0, .p (des l)),(4, .ptr 0 0 0),(5, .ptr 1 0 0),(7, .p (.bool x.2)),(8, .p (i64 x.1))],fun _=>⟨2,[(1,cnO (.mk op n rel val r st ar)),(0,dcO ⟨dk,dn,dnm,dpl,drs,dcs⟩)]⟩,fun x=>x.1≤drs.length∧x.2=decide (r∈drs.take x.1),fun x=>drs.length - x.1,?_,?_⟩
   ·exact⟨(0,false),⟨Nat.zero_le _,by simp⟩,ent_of [] [] [] rfl (sk) (sk) rfl⟩
   rintro⟨k,b⟩ ⟨k1,k2⟩
   simp only [] at k1 k2
   (first | refine brLt (fun m1=>?_) (fun m1=>?_) | refine brLe (fun m1=>?_) (fun m1=>?_) | refine brEq (fun m1=>?_) (fun m1=>?_))
   ·have m1:(k:Int)<((drs.map Rf.cells).length:Nat):=m1
    rw [List.length_map] at m1
    have hk:k<drs.length:=by omega
    have hcell:=rcell hk
    have hnx:(r∈drs.take (k+1)) ↔ (r∈drs.take k∨r=drs.getD k rf0):=by rw [take_succ_getD rf0 hk,List.mem_append,List.mem_singleton]
    generalize drs.getD k rf0=x at hcell hnx
    cases b
    ·refine vdraw_ot otT5 (by kernel_rfl) ?_
     refine⟨_,⟨by omega,x.cells,hcell,rfl⟩,?_⟩
     refine⟨⟨by kernel_rfl,by kernel_rfl⟩,fun e1=>?_,fun e1=>?_⟩
     ·have e1:x=r:=rf_ext (by first | exact e1 | (injection e1))
      refine⟨_,wrap_i64 (by omega) (by omega),?_⟩
      exact⟨(k+1,true),⟨by show k+1≤drs.length;omega,(decide_eq_true (hnx.2 (.inr e1.symm))).symm⟩,ent_of [] [] [] rfl (sk) (sk) rfl,by show drs.length - (k+1)<drs.length - k;omega⟩
     ·have e1:¬ x=r:=fun e=>e1 (by rw [e])
      have hno:¬ r∈drs.take k:=of_decide_eq_false k2.symm
      refine⟨_,wrap_i64 (by omega) (by omega),?_⟩
      exact⟨(k+1,false),⟨by show k+1≤drs.length;omega,(decide_eq_false (fun h=>(hnx.1 h).elim hno fun e=>e1 e.symm)).symm⟩,ent_of [] [] [] rfl (sk) (sk) rfl,by show drs.length - (k+1)<drs.length - k;omega⟩
    ·have hyes:r∈drs.take k:=of_decide_eq_true k2.symm
     refine vdraw_ot otT5 (by kernel_rfl) ?_
     refine⟨_,wrap_i64 (by omega) (by omega),?_⟩
     exact⟨(k+1,true),⟨by show k+1≤drs.length;omega,(decide_eq_true (hnx.2 (.inl hyes))).symm⟩,ent_of [] [] [] rfl (sk) (sk) rfl,by show drs.length - (k+1)<drs.length - k;omega⟩
   have m1:¬ (k:Int)<((drs.map Rf.cells).length:Nat):=m1
   rw [List.length_map] at m1
   rw [take_all (by omega)] at k2
   cases b
   ·have hno:¬ r∈drs:=of_decide_eq_false k2.symm
    rw [if_pos hno] at hR
    exact end1 _ rfl rfl (retI hR.symm)
   have hmem:r∈drs:=of_decide_eq_true k2.symm
   rw [if_neg (fun h=>h hmem)] at hR
   (first | refine brLt (fun md=>?_) (fun md=>?_) | refine brLe (fun md=>?_) (fun md=>?_) | refine brEq (fun md=>?_) (fun md=>?_))
   ·have md:r.mode=3:=md
    (first | refine brLt (fun o6=>?_) (fun o6=>?_) | refine brLe (fun o6=>?_) (fun o6=>?_) | refine brEq (fun o6=>?_) (fun o6=>?_))
    rotate_left
    ·have o6:¬ op=6:=o6
     rw [if_pos ⟨md,o6⟩] at hR
     exact end1 _ rfl rfl (retI hR.symm)
    have o6:op=6:=o6
    rw [if_neg (fun h=>h.2 o6)] at hR
    (first | refine brLt (fun o5=>?_) (fun o5=>?_) | refine brLe (fun o5=>?_) (fun o5=>?_) | refine brEq (fun o5=>?_) (fun o5=>?_))
    ·have o5:op=5:=o5
     obtain⟨m,hm⟩:∃ m:Nat,st.length=m+1:=⟨st.length - 1,by have:=hst o5;omega⟩
     have hm1:((st.map i64).length:Int) - 1=(m:Nat):=by rw [List.length_map];omega
     have hmd:st.length - 1=m:=by omega
     refine⟨((m:Nat):Int),by show _=IntKind.i64.wrap (((st.map i64).length:Nat) - 1:Int);rw [hm1];exact wrap_i64 (by omega) (by omega),?_⟩
     refine⟨_,⟨by omega,i64 (st.getD m 0),icell (by omega),rfl⟩,?_⟩
     refine hK.eq rfl ?_
     exact end1 _ rfl rfl (retI hR.symm)
    have o5:¬ op=5:=o5
    (first | refine brLt (fun p6=>?_) (fun p6=>?_) | refine brLe (fun p6=>?_) (fun p6=>?_) | refine brEq (fun p6=>?_) (fun p6=>?_))
    ·have p6:op=6:=p6
     refine hK.eq rfl ?_
     exact end1 _ rfl rfl (retI hR.symm)
    have p6:¬ op=6:=p6
    refine hK.eq rfl ?_
    exact end1 _ rfl rfl (retI hR.symm)
   have md:¬ r.mode=3:=md
   rw [if_neg (fun h=>md h.1)] at hR
   (first | refine brLt (fun o5=>?_) (fun o5=>?_) | refine brLe (fun o5=>?_) (fun o5=>?_) | refine brEq (fun o5=>?_) (fun o5=>?_))
   ·have o5:op=5:=o5
    obtain⟨m,hm⟩:∃ m:Nat,st.length=m+1:=⟨st.length - 1,by have:=hst o5;omega⟩
    have hm1:((st.map i64).length:Int) - 1=(m:Nat):=by rw [List.length_map];omega
    have hmd:st.length - 1=m:=by omega
    refine⟨((m:Nat):Int),by show _=IntKind.i64.wrap (((st.map i64).length:Nat) - 1:Int);rw [hm1];exact wrap_i64 (by omega) (by omega),?_⟩
    refine⟨_,⟨by omega,i64 (st.getD m 0),icell (by omega),rfl⟩,?_⟩
    refine hK.eq rfl ?_
    exact end1 _ rfl rfl (retI hR.symm)
   have o5:¬ op=5:=o5
   (first | refine brLt (fun p6=>?_) (fun p6=>?_) | refine brLe (fun p6=>?_) (fun p6=>?_) | refine brEq (fun p6=>?_) (fun p6=>?_))
   ·have p6:op=6:=p6
    refine hK.eq rfl ?_
    exact end1 _ rfl rfl (retI hR.symm)
   have p6:¬ op=6:=p6
   refine hK.eq rfl ?_
   exact end1 _ rfl rfl (retI hR.symm)
 | some t=>
  obtain⟨a,ha⟩:=fnd_some hn hv
  rw [ha] at hK
  rw [hv] at hR
  simp only [] at hR hK
  rw [skV,symOf] at hK
  by_cases k2:t.kind=2
  ·rw [if_pos k2] at hK
   simp only [if_pos k2] at hR
   try simp only [] at hK
   clear hv ha
   refine pure_of_vc Tryz.func182 rfl rfl rfl ?_
   refine⟨Nat × Bool,fun x=>[(0, .p (des l)),(4, .ptr 0 0 0),(5, .ptr 1 0 0),(7, .p (.bool x.2)),(8, .p (i64 x.1))],fun _=>⟨2,[(1,cnO (.mk op n rel val r st ar)),(0,dcO ⟨dk,dn,dnm,dpl,drs,dcs⟩)]⟩,fun x=>x.1≤drs.length∧x.2=decide (r∈drs.take x.1),fun x=>drs.length - x.1,?_,?_⟩
   ·exact⟨(0,false),⟨Nat.zero_le _,by simp⟩,ent_of [] [] [] rfl (sk) (sk) rfl⟩
   rintro⟨k,b⟩ ⟨k1,k2⟩
   simp only [] at k1 k2
   (first | refine brLt (fun m1=>?_) (fun m1=>?_) | refine brLe (fun m1=>?_) (fun m1=>?_) | refine brEq (fun m1=>?_) (fun m1=>?_))
   ·have m1:(k:Int)<((drs.map Rf.cells).length:Nat):=m1
    rw [List.length_map] at m1
    have hk:k<drs.length:=by omega
    have hcell:=rcell hk
    have hnx:(r∈drs.take (k+1)) ↔ (r∈drs.take k∨r=drs.getD k rf0):=by rw [take_succ_getD rf0 hk,List.mem_append,List.mem_singleton]
    generalize drs.getD k rf0=x at hcell hnx
    cases b
    ·refine vdraw_ot otT5 (by kernel_rfl) ?_
     refine⟨_,⟨by omega,x.cells,hcell,rfl⟩,?_⟩
     refine⟨⟨by kernel_rfl,by kernel_rfl⟩,fun e1=>?_,fun e1=>?_⟩
     ·have e1:x=r:=rf_ext (by first | exact e1 | (injection e1))
      refine⟨_,wrap_i64 (by omega) (by omega),?_⟩
      exact⟨(k+1,true),⟨by show k+1≤drs.length;omega,(decide_eq_true (hnx.2 (.inr e1.symm))).symm⟩,ent_of [] [] [] rfl (sk) (sk) rfl,by show drs.length - (k+1)<drs.length - k;omega⟩
     ·have e1:¬ x=r:=fun e=>e1 (by rw [e])
      have hno:¬ r∈drs.take k:=of_decide_eq_false k2.symm
      refine⟨_,wrap_i64 (by omega) (by omega),?_⟩
      exact⟨(k+1,false),⟨by show k+1≤drs.length;omega,(decide_eq_false (fun h=>(hnx.1 h).elim hno fun e=>e1 e.symm)).symm⟩,ent_of [] [] [] rfl (sk) (sk) rfl,by show drs.length - (k+1)<drs.length - k;omega⟩
    ·have hyes:r∈drs.take k:=of_decide_eq_true k2.symm
     refine vdraw_ot otT5 (by kernel_rfl) ?_
     refine⟨_,wrap_i64 (by omega) (by omega),?_⟩
     exact⟨(k+1,true),⟨by show k+1≤drs.length;omega,(decide_eq_true (hnx.2 (.inl hyes))).symm⟩,ent_of [] [] [] rfl (sk) (sk) rfl,by show drs.length - (k+1)<drs.length - k;omega⟩
   have m1:¬ (k:Int)<((drs.map Rf.cells).length:Nat):=m1
   rw [List.length_map] at m1
   rw [take_all (by omega)] at k2
   cases b
   ·have hno:¬ r∈drs:=of_decide_eq_false k2.symm
    rw [if_pos hno] at hR
    exact end1 _ rfl rfl (retI hR.symm)
   have hmem:r∈drs:=of_decide_eq_true k2.symm
   rw [if_neg (fun h=>h hmem)] at hR
   (first | refine brLt (fun md=>?_) (fun md=>?_) | refine brLe (fun md=>?_) (fun md=>?_) | refine brEq (fun md=>?_) (fun md=>?_))
   ·have md:r.mode=3:=md
    (first | refine brLt (fun o6=>?_) (fun o6=>?_) | refine brLe (fun o6=>?_) (fun o6=>?_) | refine brEq (fun o6=>?_) (fun o6=>?_))
    rotate_left
    ·have o6:¬ op=6:=o6
     rw [if_pos ⟨md,o6⟩] at hR
     exact end1 _ rfl rfl (retI hR.symm)
    have o6:op=6:=o6
    rw [if_neg (fun h=>h.2 o6)] at hR
    (first | refine brLt (fun o5=>?_) (fun o5=>?_) | refine brLe (fun o5=>?_) (fun o5=>?_) | refine brEq (fun o5=>?_) (fun o5=>?_))
    ·have o5:op=5:=o5
     obtain⟨m,hm⟩:∃ m:Nat,st.length=m+1:=⟨st.length - 1,by have:=hst o5;omega⟩
     have hm1:((st.map i64).length:Int) - 1=(m:Nat):=by rw [List.length_map];omega
     have hmd:st.length - 1=m:=by omega
     refine⟨((m:Nat):Int),by show _=IntKind.i64.wrap (((st.map i64).length:Nat) - 1:Int);rw [hm1];exact wrap_i64 (by omega) (by omega),?_⟩
     refine⟨_,⟨by omega,i64 (st.getD m 0),icell (by omega),rfl⟩,?_⟩
     refine hK.eq rfl ?_
     refine And.intro (fun _=>?_) (fun h=>absurd rfl h)
     exact end1 _ rfl rfl (retI hR.symm)
    have o5:¬ op=5:=o5
    (first | refine brLt (fun p6=>?_) (fun p6=>?_) | refine brLe (fun p6=>?_) (fun p6=>?_) | refine brEq (fun p6=>?_) (fun p6=>?_))
    ·have p6:op=6:=p6
     refine hK.eq rfl ?_
     refine And.intro (fun _=>?_) (fun h=>absurd rfl h)
     exact end1 _ rfl rfl (retI hR.symm)
    have p6:¬ op=6:=p6
    refine hK.eq rfl ?_
    refine And.intro (fun _=>?_) (fun h=>absurd rfl h)
    exact end1 _ rfl rfl (retI hR.symm)
   have md:¬ r.mode=3:=md
   rw [if_neg (fun h=>md h.1)] at hR
   (first | refine brLt (fun o5=>?_) (fun o5=>?_) | refine brLe (fun o5=>?_) (fun o5=>?_) | refine brEq (fun o5=>?_) (fun o5=>?_))
   ·have o5:op=5:=o5
    obtain⟨m,hm⟩:∃ m:Nat,st.length=m+1:=⟨st.length - 1,by have:=hst o5;omega⟩
    have hm1:((st.map i64).length:Int) - 1=(m:Nat):=by rw [List.length_map];omega
    have hmd:st.length - 1=m:=by omega
    refine⟨((m:Nat):Int),by show _=IntKind.i64.wrap (((st.map i64).length:Nat) - 1:Int);rw [hm1];exact wrap_i64 (by omega) (by omega),?_⟩
    refine⟨_,⟨by omega,i64 (st.getD m 0),icell (by omega),rfl⟩,?_⟩
    refine hK.eq rfl ?_
    refine And.intro (fun _=>?_) (fun h=>absurd rfl h)
    exact end1 _ rfl rfl (retI hR.symm)
   have o5:¬ op=5:=o5
   (first | refine brLt (fun p6=>?_) (fun p6=>?_) | refine brLe (fun p6=>?_) (fun p6=>?_) | refine brEq (fun p6=>?_) (fun p6=>?_))
   ·have p6:op=6:=p6
    refine hK.eq rfl ?_
    refine And.intro (fun _=>?_) (fun h=>absurd rfl h)
    exact end1 _ rfl rfl (retI hR.symm)
   have p6:¬ op=6:=p6
   refine hK.eq rfl ?_
   refine And.intro (fun _=>?_) (fun h=>absurd rfl h)
   exact end1 _ rfl rfl (retI hR.symm)
  ·rw [if_neg k2] at hK
   simp only [if_neg k2] at hR
   try simp only [] at hK
   generalize (if t.plate=[] then 1 else sizeV a t.plate)=sz at hK
   obtain⟨tk,kk,tnm,tpl,trs,tcs⟩:=t
   simp only [] at hR hK k2
   have hk2:=k2
   clear hv ha k2
   refine pure_of_vc Tryz.func182 rfl rfl rfl ?_
   refine⟨Nat × Bool,fun x=>[(0, .p (des l)),(4, .ptr 0 0 0),(5, .ptr 1 0 0),(7, .p (.bool x.2)),(8, .p (i64 x.1))],fun _=>⟨2,[(1,cnO (.mk op n rel val r st ar)),(0,dcO ⟨dk,dn,dnm,dpl,drs,dcs⟩)]⟩,fun x=>x.1≤drs.length∧x.2=decide (r∈drs.take x.1),fun x=>drs.length - x.1,?_,?_⟩
   ·exact⟨(0,false),⟨Nat.zero_le _,by simp⟩,ent_of [] [] [] rfl (sk) (sk) rfl⟩
   rintro⟨k,b⟩ ⟨k1,k2⟩
   simp only [] at k1 k2
   (first | refine brLt (fun m1=>?_) (fun m1=>?_) | refine brLe (fun m1=>?_) (fun m1=>?_) | refine brEq (fun m1=>?_) (fun m1=>?_))
   ·have m1:(k:Int)<((drs.map Rf.cells).length:Nat):=m1
    rw [List.length_map] at m1
    have hk:k<drs.length:=by omega
    have hcell:=rcell hk
    have hnx:(r∈drs.take (k+1)) ↔ (r∈drs.take k∨r=drs.getD k rf0):=by rw [take_succ_getD rf0 hk,List.mem_append,List.mem_singleton]
    generalize drs.getD k rf0=x at hcell hnx
    cases b
    ·refine vdraw_ot otT5 (by kernel_rfl) ?_
     refine⟨_,⟨by omega,x.cells,hcell,rfl⟩,?_⟩
     refine⟨⟨by kernel_rfl,by kernel_rfl⟩,fun e1=>?_,fun e1=>?_⟩
     ·have e1:x=r:=rf_ext (by first | exact e1 | (injection e1))
      refine⟨_,wrap_i64 (by omega) (by omega),?_⟩
      exact⟨(k+1,true),⟨by show k+1≤drs.length;omega,(decide_eq_true (hnx.2 (.inr e1.symm))).symm⟩,ent_of [] [] [] rfl (sk) (sk) rfl,by show drs.length - (k+1)<drs.length - k;omega⟩
     ·have e1:¬ x=r:=fun e=>e1 (by rw [e])
      have hno:¬ r∈drs.take k:=of_decide_eq_false k2.symm
      refine⟨_,wrap_i64 (by omega) (by omega),?_⟩
      exact⟨(k+1,false),⟨by show k+1≤drs.length;omega,(decide_eq_false (fun h=>(hnx.1 h).elim hno fun e=>e1 e.symm)).symm⟩,ent_of [] [] [] rfl (sk) (sk) rfl,by show drs.length - (k+1)<drs.length - k;omega⟩
    ·have hyes:r∈drs.take k:=of_decide_eq_true k2.symm
     refine vdraw_ot otT5 (by kernel_rfl) ?_
     refine⟨_,wrap_i64 (by omega) (by omega),?_⟩
     exact⟨(k+1,true),⟨by show k+1≤drs.length;omega,(decide_eq_true (hnx.2 (.inl hyes))).symm⟩,ent_of [] [] [] rfl (sk) (sk) rfl,by show drs.length - (k+1)<drs.length - k;omega⟩
   have m1:¬ (k:Int)<((drs.map Rf.cells).length:Nat):=m1
   rw [List.length_map] at m1
   rw [take_all (by omega)] at k2
   cases b
   ·have hno:¬ r∈drs:=of_decide_eq_false k2.symm
    rw [if_pos hno] at hR
    exact end1 _ rfl rfl (retI hR.symm)
   have hmem:r∈drs:=of_decide_eq_true k2.symm
   rw [if_neg (fun h=>h hmem)] at hR
   (first | refine brLt (fun md=>?_) (fun md=>?_) | refine brLe (fun md=>?_) (fun md=>?_) | refine brEq (fun md=>?_) (fun md=>?_))
   ·have md:r.mode=3:=md
    (first | refine brLt (fun o6=>?_) (fun o6=>?_) | refine brLe (fun o6=>?_) (fun o6=>?_) | refine brEq (fun o6=>?_) (fun o6=>?_))
    rotate_left
    ·have o6:¬ op=6:=o6
     rw [if_pos ⟨md,o6⟩] at hR
     exact end1 _ rfl rfl (retI hR.symm)
    have o6:op=6:=o6
    rw [if_neg (fun h=>h.2 o6)] at hR
    (first | refine brLt (fun o5=>?_) (fun o5=>?_) | refine brLe (fun o5=>?_) (fun o5=>?_) | refine brEq (fun o5=>?_) (fun o5=>?_))
    ·have o5:op=5:=o5
     obtain⟨m,hm⟩:∃ m:Nat,st.length=m+1:=⟨st.length - 1,by have:=hst o5;omega⟩
     have hm1:((st.map i64).length:Int) - 1=(m:Nat):=by rw [List.length_map];omega
     have hmd:st.length - 1=m:=by omega
     refine⟨((m:Nat):Int),by show _=IntKind.i64.wrap (((st.map i64).length:Nat) - 1:Int);rw [hm1];exact wrap_i64 (by omega) (by omega),?_⟩
     refine⟨_,⟨by omega,i64 (st.getD m 0),icell (by omega),rfl⟩,?_⟩
     have hg:gstI op n val st=st.getD m 0:=by rw [gstI,if_pos o5,hmd]
     refine hK.eq rfl ?_
     refine And.intro (fun h=>absurd h hk2) (fun _=>?_)
     (first | refine brLt (fun w1=>?_) (fun w1=>?_) | refine brLe (fun w1=>?_) (fun w1=>?_) | refine brEq (fun w1=>?_) (fun w1=>?_))
     ·have w1:kk≤st.getD m 0:=w1
      exact end1 _ rfl rfl (retI (by rw [hR,hg,if_pos w1]))
     ·have w1:¬ kk≤st.getD m 0:=w1
      exact end1 _ rfl rfl (retI (by rw [hR,hg,if_neg w1]))
    have o5:¬ op=5:=o5
    (first | refine brLt (fun p6=>?_) (fun p6=>?_) | refine brLe (fun p6=>?_) (fun p6=>?_) | refine brEq (fun p6=>?_) (fun p6=>?_))
    ·have p6:op=6:=p6
     have hg:gstI op n val st=val:=by rw [gstI,if_neg o5,if_pos p6]
     refine hK.eq rfl ?_
     refine And.intro (fun h=>absurd h hk2) (fun _=>?_)
     (first | refine brLt (fun w1=>?_) (fun w1=>?_) | refine brLe (fun w1=>?_) (fun w1=>?_) | refine brEq (fun w1=>?_) (fun w1=>?_))
     ·have w1:kk≤val:=w1
      exact end1 _ rfl rfl (retI (by rw [hR,hg,if_pos w1]))
     ·have w1:¬ kk≤val:=w1
      exact end1 _ rfl rfl (retI (by rw [hR,hg,if_neg w1]))
    have p6:¬ op=6:=p6
    have hg:gstI op n val st=n:=by rw [gstI,if_neg o5,if_neg p6]
    refine hK.eq rfl ?_
    refine And.intro (fun h=>absurd h hk2) (fun _=>?_)
    (first | refine brLt (fun w1=>?_) (fun w1=>?_) | refine brLe (fun w1=>?_) (fun w1=>?_) | refine brEq (fun w1=>?_) (fun w1=>?_))
    ·have w1:kk≤n:=w1
     exact end1 _ rfl rfl (retI (by rw [hR,hg,if_pos w1]))
    ·have w1:¬ kk≤n:=w1
     exact end1 _ rfl rfl (retI (by rw [hR,hg,if_neg w1]))
   have md:¬ r.mode=3:=md
   rw [if_neg (fun h=>md h.1)] at hR
   (first | refine brLt (fun o5=>?_) (fun o5=>?_) | refine brLe (fun o5=>?_) (fun o5=>?_) | refine brEq (fun o5=>?_) (fun o5=>?_))
   ·have o5:op=5:=o5
    obtain⟨m,hm⟩:∃ m:Nat,st.length=m+1:=⟨st.length - 1,by have:=hst o5;omega⟩
    have hm1:((st.map i64).length:Int) - 1=(m:Nat):=by rw [List.length_map];omega
    have hmd:st.length - 1=m:=by omega
    refine⟨((m:Nat):Int),by show _=IntKind.i64.wrap (((st.map i64).length:Nat) - 1:Int);rw [hm1];exact wrap_i64 (by omega) (by omega),?_⟩
    refine⟨_,⟨by omega,i64 (st.getD m 0),icell (by omega),rfl⟩,?_⟩
    have hg:gstI op n val st=st.getD m 0:=by rw [gstI,if_pos o5,hmd]
    refine hK.eq rfl ?_
    refine And.intro (fun h=>absurd h hk2) (fun _=>?_)
    (first | refine brLt (fun w1=>?_) (fun w1=>?_) | refine brLe (fun w1=>?_) (fun w1=>?_) | refine brEq (fun w1=>?_) (fun w1=>?_))
    ·have w1:kk≤st.getD m 0:=w1
     exact end1 _ rfl rfl (retI (by rw [hR,hg,if_pos w1]))
    ·have w1:¬ kk≤st.getD m 0:=w1
     exact end1 _ rfl rfl (retI (by rw [hR,hg,if_neg w1]))
   have o5:¬ op=5:=o5
   (first | refine brLt (fun p6=>?_) (fun p6=>?_) | refine brLe (fun p6=>?_) (fun p6=>?_) | refine brEq (fun p6=>?_) (fun p6=>?_))
   ·have p6:op=6:=p6
    have hg:gstI op n val st=val:=by rw [gstI,if_neg o5,if_pos p6]
    refine hK.eq rfl ?_
    refine And.intro (fun h=>absurd h hk2) (fun _=>?_)
    (first | refine brLt (fun w1=>?_) (fun w1=>?_) | refine brLe (fun w1=>?_) (fun w1=>?_) | refine brEq (fun w1=>?_) (fun w1=>?_))
    ·have w1:kk≤val:=w1
     exact end1 _ rfl rfl (retI (by rw [hR,hg,if_pos w1]))
    ·have w1:¬ kk≤val:=w1
     exact end1 _ rfl rfl (retI (by rw [hR,hg,if_neg w1]))
   have p6:¬ op=6:=p6
   have hg:gstI op n val st=n:=by rw [gstI,if_neg o5,if_neg p6]
   refine hK.eq rfl ?_
   refine And.intro (fun h=>absurd h hk2) (fun _=>?_)
   (first | refine brLt (fun w1=>?_) (fun w1=>?_) | refine brLe (fun w1=>?_) (fun w1=>?_) | refine brEq (fun w1=>?_) (fun w1=>?_))
   ·have w1:kk≤n:=w1
    exact end1 _ rfl rfl (retI (by rw [hR,hg,if_pos w1]))
   ·have w1:¬ kk≤n:=w1
    exact end1 _ rfl rfl (retI (by rw [hR,hg,if_neg w1]))
theorem scrrow_c (d:De) (nums:List Int) (g:Int) (hw:∀ x∈nums,-9999≤x∧x≤9999) (hl:nums.length≤100):Pure cx 130 [d.pv,ints nums,i64 g] (·=.ret [.bool (rowI d nums g)]):=by
 obtain⟨R,hR⟩:∃ R,R=rowI d nums g:=⟨_,rfl⟩
 rw [← hR]
 have hm:(nums.map i64).length=nums.length:=List.length_map ..
 obtain⟨dk,dn,dnm,dpl,drs,dcs⟩:=d
 by_cases hk:dk=5
 ·rw [rowI_gain hk] at hR
  refine pure_of_vc Tryz.func130 rfl rfl rfl ?_
  refine And.intro (fun _=>?_) (fun h=>absurd hk h)
  (first | refine brLt (fun h1=>?_) (fun h1=>?_) | refine brLe (fun h1=>?_) (fun h1=>?_) | refine brEq (fun h1=>?_) (fun h1=>?_))
  rotate_left
  ·have h1:¬ ((nums.map i64).length:Int)=1:=h1
   rw [hm] at h1
   exact end1 _ rfl rfl (retB (by rw [hR,decide_eq_false (show ¬ nums.length=1 by omega)];rfl))
  have h1:((nums.map i64).length:Int)=1:=h1
  rw [hm] at h1
  rw [decide_eq_true (show nums.length=1 by omega)] at hR
  have hc:=icell (l:=nums) (k:=0) (by omega)
  generalize nums.getD 0 0=x at hc hR
  refine⟨_,⟨by decide,i64 x,hc,rfl⟩,?_⟩
  (first | refine brLt (fun h2=>?_) (fun h2=>?_) | refine brLe (fun h2=>?_) (fun h2=>?_) | refine brEq (fun h2=>?_) (fun h2=>?_))
  rotate_left
  ·have h2:¬ -100≤x:=h2
   exact end1 _ rfl rfl (retB (by rw [hR,decide_eq_false h2];rfl))
  have h2:-100≤x:=h2
  refine⟨_,⟨by decide,i64 x,hc,rfl⟩,?_⟩
  (first | refine brLt (fun h3=>?_) (fun h3=>?_) | refine brLe (fun h3=>?_) (fun h3=>?_) | refine brEq (fun h3=>?_) (fun h3=>?_))
  ·have h3:x≤100:=h3
   exact end1 _ rfl rfl (retB (by rw [hR,decide_eq_true h2,decide_eq_true h3];rfl))
  ·have h3:¬ x≤100:=h3
   exact end1 _ rfl rfl (retB (by rw [hR,decide_eq_true h2,decide_eq_false h3];rfl))
 rw [rowI_node hk] at hR
 simp only [] at hR
 refine pure_of_vc Tryz.func130 rfl rfl rfl ?_
 refine And.intro (fun h=>absurd h hk) (fun _=>?_)
 refine⟨Nat,fun k=>[(1, .p (ints nums)),(2, .p (i64 g)),(3, .ptr 0 0 0),(7, .p (i64 (nums.take k).sum)),(8, .p (i64 k))],fun _=>⟨1,[(0,dcO ⟨dk,dn,dnm,dpl,drs,dcs⟩)]⟩,fun k=>k≤nums.length∧(∀ x∈nums.take k,0≤x)∧(nums.take k).sum≤9999 * k∧0≤(nums.take k).sum,fun k=>nums.length - k,?_,?_⟩
 ·exact⟨0,⟨Nat.zero_le _,by simp,by simp,by simp⟩,ent_of [] [] [] rfl (sk) (sk) rfl⟩
 rintro k ⟨k1,k2,k3,k4⟩
 (first | refine brLt (fun m1=>?_) (fun m1=>?_) | refine brLe (fun m1=>?_) (fun m1=>?_) | refine brEq (fun m1=>?_) (fun m1=>?_))
 ·have m1:(k:Int)<((nums.map i64).length:Nat):=m1
  rw [hm] at m1
  have hkk:k<nums.length:=by omega
  have hc:=icell hkk
  have hx:=hw _ (getD_memL 0 hkk)
  have hs:=sum_snoc nums k hkk
  have hmem:=getD_memL 0 hkk
  have hnx:∀ y∈nums.take (k+1),y=nums.getD k 0∨y∈nums.take k:=fun y hy=>by
   rw [take_succ_getD 0 hkk] at hy
   rcases List.mem_append.1 hy with hy | hy
   ·exact .inr hy
   ·exact .inl (List.mem_singleton.1 hy)
  generalize nums.getD k 0=x at hc hx hs hmem hnx
  refine⟨_,⟨by omega,i64 x,hc,rfl⟩,?_⟩
  (first | refine brLt (fun w1=>?_) (fun w1=>?_) | refine brLe (fun w1=>?_) (fun w1=>?_) | refine brEq (fun w1=>?_) (fun w1=>?_))
  ·have w1:x<0:=w1
   exact end1 _ rfl rfl (retB (by rw [hR,List.all_eq_false.2 ⟨x,hmem,by simp;omega⟩];rfl))
  have w1:¬ x<0:=w1
  refine⟨_,⟨by omega,i64 x,hc,rfl⟩,?_⟩
  refine⟨(nums.take (k+1)).sum,by rw [hs];exact wrap_i64 (by omega) (by omega),?_⟩
  refine⟨_,wrap_i64 (by omega) (by omega),?_⟩
  refine⟨k+1,⟨by omega,fun y hy=>?_,by rw [hs];omega,by rw [hs];omega⟩,ent_of [] [] [] rfl (sk) (sk) rfl,by show nums.length - (k+1)<nums.length - k;omega⟩
  rcases hnx y hy with rfl | hy
  ·omega
  ·exact k2 y hy
 have m1:¬ (k:Int)<((nums.map i64).length:Nat):=m1
 rw [hm] at m1
 rw [take_all (by omega)] at k2
 have ha:nums.all (fun w=>decide (0≤w))=true:=List.all_eq_true.2 fun x hx=>decide_eq_true (k2 x hx)
 rw [ha] at hR
 (first | refine brLt (fun e1=>?_) (fun e1=>?_) | refine brLe (fun e1=>?_) (fun e1=>?_) | refine brEq (fun e1=>?_) (fun e1=>?_))
 rotate_left
 ·have e1:¬ ((nums.map i64).length:Int)=dn:=e1
  rw [hm] at e1
  exact end1 _ rfl rfl (retB (by rw [hR,decide_eq_false e1];rfl))
 have e1:((nums.map i64).length:Int)=dn:=e1
 rw [hm] at e1
 rw [decide_eq_true e1] at hR
 (first | refine brLt (fun e2=>?_) (fun e2=>?_) | refine brLe (fun e2=>?_) (fun e2=>?_) | refine brEq (fun e2=>?_) (fun e2=>?_))
 ·have e2:(nums.take k).sum=g:=e2
  rw [take_all (by omega)] at e2
  exact end1 _ rfl rfl (retB (by rw [hR,decide_eq_true e2];rfl))
 ·have e2:¬ (nums.take k).sum=g:=e2
  rw [take_all (by omega)] at e2
  exact end1 _ rfl rfl (retB (by rw [hR,decide_eq_false e2];rfl))
theorem testI_nn (l:List De) (d:De) (op n val:Int) (r:Rf) (st:List Int):0≤testI l d op n val r st:=by
 unfold testI
 split
 ·decide
 ·split
  ·decide
  ·split
   ·split <;> decide
   ·decide
theorem refI_nn (l:List De) (d:De) (r:Rf):0≤refI l d r:=by
 unfold refI
 split
 ·split <;> decide
 ·split <;> decide
def lsQ (l:List Iss) (e:AE) (H':Hp):Prop:=e=.returned (.sl 1 3 0 l.length)∧H'=⟨2,[(1,isO l)]⟩
abbrev otC11:OT:=(.pure 0 (.pure 1 (.pure 2 (.pure 3 (.pure 4 (.pure 5 (.pure 6 (.pure 7 (.eff 8 [] (.pure 9 .fin) .nil)))))))))
theorem rcond_h (l:List De) (d:De) (hdr:d.refs.length≤100) (hl:l.length≤1000) (hok:∀ d∈l,OkD d):∀ (m:Nat) (c:Cd) (cur:List Iss),csz c≤m→WkOK c→(cur++condI l d c).length≤100000 →
  HoldsG cx 129 [.p (des l), .p d.pv, .p c.pv, .sl 0 3 0 cur.length] ⟨1,[(0,isO cur)]⟩ (lsQ (cur++condI l d c))
 | 0,c,_,hz,_,_=>by cases c;rw [csz] at hz;omega
 | m+1, .mk op n rel val r st ar,cur,hz,hw,hlen=>by
  have IH:=rcond_h l d hdr hl hok m
  rw [csz] at hz
  rw [WkOK] at hw
  obtain⟨⟨w1,w0⟩,w2,w3⟩:=hw
  have hcl:(cellsL ar).length=ar.length:=by rw [cellsL_map,List.length_map]
  have hm:(l.map De.cells).length=l.length:=List.length_map ..
  obtain⟨R,hR⟩:∃ R,R=cur++condI l d (.mk op n rel val r st ar):=⟨_,rfl⟩
  rw [← hR] at hlen ⊢
  by_cases hn:ar=[]
  ·subst hn
   rw [condI] at hR
   by_cases o0:op=0
   ·rw [if_pos o0,List.append_nil] at hR
    obtain⟨dk,dn,dnm,dpl,drs,dcs⟩:=d
    refine holdsN_of_vc Tryz.func129 rfl rfl rfl ?_
    refine And.intro (fun _=>?_) (fun h=>absurd o0 h)
    exact⟨[],[(1,0)],[], .returned (.sl 1 3 0 (cur).length),⟨2,[(1,isO (cur))]⟩,rfl,sk,sk,by rw [hR],by rw [hR]⟩
   ·rw [if_neg o0] at hR
    have hw:=(w1 rfl).resolve_left o0
    have hT:=scrtest_c l d (op:=op) (n:=n) (rel:=rel) (val:=val) (r:=r) (st:=st) (ar:=[]) hw.1 hw.2.1 hw.2.2 hdr hl hok
    have hnn:=testI_nn l d op n val r st
    have hc1:cur.length≤100000:=by rw [hR,List.length_append] at hlen;omega
    generalize testI l d op n val r st=kk at hT hR hnn
    obtain⟨dk,dn,dnm,dpl,drs,dcs⟩:=d
    refine holdsN_of_vc Tryz.func129 rfl rfl rfl ?_
    refine And.intro (fun h=>absurd h o0) (fun _=>?_)
    refine And.intro (fun _=>?_) (fun h=>absurd rfl h)
    refine hT.eq rfl ?_
    (first | refine brLt (fun z=>?_) (fun z=>?_) | refine brLe (fun z=>?_) (fun z=>?_) | refine brEq (fun z=>?_) (fun z=>?_))
    ·have z:0<kk:=z
     rw [noteI,if_neg (by omega)] at hR
     refine⟨by show 0+1≤1;omega,[Iss.cells (Iss.mk kk ((l.map De.cells).length:Nat) r.name)],rfl,?_⟩
     refine⟨by show 0+cur.length≤(cur.map Iss.cells).length;simp,cur.map Iss.cells,takeAll (by simp),by show(cur.length+1) * 32≤140737488355328;omega,(cur++[Iss.mk kk ((l.map De.cells).length:Nat) r.name]).map Iss.cells,by rw [List.map_append];rfl,?_⟩
     exact⟨[],[(1,4)],[], .returned (.sl 1 3 0 (cur++[Iss.mk kk ((l.map De.cells).length:Nat) r.name]).length),⟨2,[(1,isO (cur++[Iss.mk kk ((l.map De.cells).length:Nat) r.name]))]⟩,rfl,⟨_,rfl,congrArg (fun j:Nat=>AV.sl 4 3 0 j) (snoc_len cur _).symm⟩,sk,by rw [hR,hm],by rw [hR,hm]⟩
    ·have z:¬ 0<kk:=z
     rw [noteI,if_pos (by omega),List.append_nil] at hR
     exact⟨[],[(1,0)],[], .returned (.sl 1 3 0 (cur).length),⟨2,[(1,isO (cur))]⟩,rfl,sk,sk,by rw [hR],by rw [hR]⟩
  have o0:¬ op=0:=fun e=>hn (w0 e)
  have hC1:condI l d (.mk op n rel val r st ar)=condIs l d ar:=by
   cases ar with
   | nil=>exact absurd rfl hn
   | cons x ar=>rw [condI,condIs]
  have hpos:¬ ar.length=0:=fun e=>hn (List.eq_nil_of_length_eq_zero e)
  rw [hC1] at hR
  obtain⟨dk,dn,dnm,dpl,drs,dcs⟩:=d
  refine holdsN_of_vc Tryz.func129 rfl rfl rfl ?_
  refine And.intro (fun h=>absurd h o0) (fun _=>?_)
  refine And.intro (fun h=>absurd (show((cellsL ar).length:Int)=0 from h) (by rw [hcl];omega)) (fun _=>?_)
  refine⟨Nat × List Iss,fun x=>[(0, .p (des l)),(3, .sl 1 3 0 x.2.length),(5, .ptr 2 0 0),(6, .ptr 3 0 0),(10, .p (i64 x.1))],fun x=>⟨4,[(3,cnO (.mk op n rel val r st ar)),(2,dcO ⟨dk,dn,dnm,dpl,drs,dcs⟩),(1,isO x.2)]⟩,fun x=>x.1≤ar.length∧x.2++condIs l ⟨dk,dn,dnm,dpl,drs,dcs⟩ (ar.drop x.1)=R,fun x=>ar.length - x.1,?_,?_⟩
  ·exact⟨(0,cur),⟨Nat.zero_le _,hR.symm⟩,ent_of [] [(1,0),(2,1),(3,2)] [] rfl (sk) (sk) rfl⟩
  rintro⟨k,cu⟩ ⟨k1,k2⟩
  simp only [] at k1 k2
  (first | refine brLt (fun m1=>?_) (fun m1=>?_) | refine brLe (fun m1=>?_) (fun m1=>?_) | refine brEq (fun m1=>?_) (fun m1=>?_))
  rotate_left
  ·have m1:¬ (k:Int)<((cellsL ar).length:Nat):=m1
   rw [hcl] at m1
   rw [List.drop_eq_nil_of_le (by omega),condIs,List.append_nil] at k2
   exact⟨[],[(1,1)],[], .returned (.sl 1 3 0 (cu).length),⟨2,[(1,isO (cu))]⟩,rfl,sk,sk,by rw [← k2],by rw [← k2]⟩
  have m1:(k:Int)<((cellsL ar).length:Nat):=m1
  rw [hcl] at m1
  have hk:k<ar.length:=by omega
  have hcell:(cellsL ar)[k]?=some (ar.getD k cd0).cells:=by rw [cellsL_map];exact ccell hk
  have hmem:=getD_memL cd0 hk
  have hsz:=csz_mem hmem
  have hxw:=wkOKs_mem w3 hmem
  rw [dropD cd0 hk,condIs,← List.append_assoc] at k2
  have hlen2:(cu++condI l ⟨dk,dn,dnm,dpl,drs,dcs⟩ (ar.getD k cd0)).length≤100000:=by rw [← k2,List.length_append] at hlen;omega
  generalize ar.getD k cd0=x at hcell hsz hxw k2 hlen2
  obtain⟨xo,xn,xr,xv,xf,xs,xa⟩:=x
  refine vdraw_ot otC11 (by kernel_rfl) ?_
  refine⟨_,⟨by omega,(Cd.mk xo xn xr xv xf xs xa).cells,hcell,rfl⟩,?_⟩
  refine(IH (.mk xo xn xr xv xf xs xa) cu (by omega) hxw hlen2).holds.useT [] [(0,1)] rfl (sk) (sk) fun e0 H0 hq=>?_
  obtain⟨rfl,rfl⟩:=hq
  generalize cu++condI l ⟨dk,dn,dnm,dpl,drs,dcs⟩ (.mk xo xn xr xv xf xs xa)=nxt at k2 hlen2 ⊢
  refine⟨rfl,_,⟨5,(4,isO nxt)::[(3,cnO (.mk op n rel val r st ar)),(2,dcO ⟨dk,dn,dnm,dpl,drs,dcs⟩)]⟩,rfl,rfl,?_⟩
  refine⟨_,wrap_i64 (by omega) (by omega),?_⟩
  exact⟨(k+1,nxt),⟨by show k+1≤ar.length;omega,k2⟩,ent_of [] [(1,4),(2,2),(3,3)] [] rfl (sk) (sk) rfl,by show ar.length - (k+1)<ar.length - k;omega⟩
def sizeI (l:List De) (d:De):List Iss:=if d.n<1∨6<d.n then [⟨5,l.length,d.name⟩] else []
def preI (l:List De) (d:De):List Iss:=if d.kind=2 then twiceI l d++sizeI l d else if d.kind=3 then twiceI l d++(plateI l d++cardI l d) else if d.kind=4 then twiceI l d++cardI l d else []
theorem preI_len (l:List De) (d:De):(preI l d).length≤3:=by
 have h3:(twiceI l d).length≤1:=by unfold twiceI;split <;> simp
 have h4:(cardI l d).length≤1:=by unfold cardI;split <;> simp
 have h5:(plateI l d).length≤1:=by unfold plateI;repeat' (first | (split;rotate_left) | simp)
 have h6:(sizeI l d).length≤1:=by unfold sizeI;split <;> simp
 unfold preI
 repeat' split
 all_goals simp only [List.length_append,List.length_nil]
 all_goals omega
theorem found_cases (l:List De) {nm:List UInt8} (hn:nm ≠ []) (hl:l.length≤1000) (hok:∀ d∈l,OkD d):(fstV l nm=none∧Pure cx 127 [des l, .str nm] (·=.ret [.agg [.str [],i64 0, .str [],i64 0,i64 0], .bool false])) ∨
  ∃ (t:De) (y1:List UInt8) (y2:Int) (y3:List UInt8) (y4 y5:Int),fstV l nm=some t∧y2=t.kind∧Pure cx 127 [des l, .str nm] (·=.ret [.agg [.str y1,i64 y2, .str y3,i64 y4,i64 y5], .bool true]):=by
 have hF:=found_c l nm hl hok
 rw [fndV] at hF
 cases hv:fstV l nm with
 | none=>
  rw [fnd_none hv] at hF
  exact .inl ⟨rfl,hF⟩
 | some t=>
  obtain⟨a,ha⟩:=fnd_some hn hv
  rw [ha] at hF
  refine .inr ⟨t,(symOf a t).name,(symOf a t).kind,(symOf a t).plate,(symOf a t).card,(symOf a t).size,rfl,?_,hF⟩
  rw [symOf]
  by_cases h:t.kind=2
  ·rw [if_pos h,h]
  ·rw [if_neg h]
theorem twice_cases (l:List De) {d:De} (hn:d.name ≠ []) (hl:l.length≤1000) (hok:∀ d∈l,OkD d):(twiceI l d=[]∧Pure cx 127 [des l, .str d.name] (·=.ret [.agg [.str [],i64 0, .str [],i64 0,i64 0], .bool false])) ∨
  ∃ (y1:List UInt8) (y2:Int) (y3:List UInt8) (y4 y5:Int),twiceI l d=[Iss.mk 2 ((l.map De.cells).length:Nat) d.name]∧Pure cx 127 [des l, .str d.name] (·=.ret [.agg [.str y1,i64 y2, .str y3,i64 y4,i64 y5], .bool true]):=by
 rcases found_cases l hn hl hok with ⟨h1,h2⟩ | ⟨t,y1,y2,y3,y4,y5,h1,h2,h3⟩
 ·refine .inl ⟨?_,h2⟩
  rw [twiceI,fst_isSome,h1];rfl
 ·refine .inr ⟨y1,y2,y3,y4,y5,?_,h3⟩
  rw [twiceI,fst_isSome,h1,List.length_map];rfl
theorem plate_cases (l:List De) (d:De) (hl:l.length≤1000) (hok:∀ d∈l,OkD d):(d.plate=[]∧plateI l d=[])∨(¬ d.plate=[]∧((plateI l d=[Iss.mk 3 ((l.map De.cells).length:Nat) d.plate]∧Pure cx 127 [des l, .str d.plate] (·=.ret [.agg [.str [],i64 0, .str [],i64 0,i64 0], .bool false])) ∨
  ∃ (y1:List UInt8) (y2:Int) (y3:List UInt8) (y4 y5:Int),(plateI l d=[]∧Pure cx 127 [des l, .str d.plate] (·=.ret [.agg [.str y1,i64 y2, .str y3,i64 y4,i64 y5], .bool true])∧y2=2)∨(plateI l d=[Iss.mk 4 ((l.map De.cells).length:Nat) d.plate]∧Pure cx 127 [des l, .str d.plate] (·=.ret [.agg [.str y1,i64 y2, .str y3,i64 y4,i64 y5], .bool true])∧¬ y2=2))):=by
 by_cases hp:d.plate=[]
 ·exact .inl ⟨hp,by rw [plateI,if_pos hp]⟩
 refine .inr ⟨hp,?_⟩
 rcases found_cases l hp hl hok with ⟨h1,h2⟩ | ⟨t,y1,y2,y3,y4,y5,h1,h2,h3⟩
 ·refine .inl ⟨?_,h2⟩
  rw [plateI,if_neg hp,h1,List.length_map]
 ·refine .inr ⟨y1,y2,y3,y4,y5,?_⟩
  by_cases hk:t.kind=2
  ·refine .inl ⟨?_,h3,h2.trans hk⟩
   rw [plateI,if_neg hp,h1]
   simp only [if_pos hk]
  ·refine .inr ⟨?_,h3,fun e=>hk (h2.symm.trans e)⟩
   rw [plateI,if_neg hp,h1,List.length_map]
   simp only [if_neg hk]
abbrev otO27:OT:=(.pure 0 (.pure 1 (.pure 2 (.pure 3 (.pure 4 (.pure 5 (.pure 6 (.pure 7 (.pure 8 (.pure 9 (.pure 10 (.pure 11 (.pure 12 (.pure 13 (.pure 14 .fin)))))))))))))))
abbrev otO30:OT:=(.pure 0 (.pure 1 (.pure 2 (.pure 3 (.pure 4 (.pure 5 (.pure 6 (.eff 7 [] (.pure 8 .fin) .nil))))))))
abbrev otO36:OT:=(.pure 0 (.pure 1 (.pure 2 (.pure 3 (.pure 4 (.pure 5 (.pure 6 (.pure 7 (.pure 8 (.eff 9 [] (.pure 10 .fin) .nil))))))))))
abbrev otO37:OT:=(.pure 0 (.pure 1 (.pure 2 (.pure 3 (.pure 4 (.pure 5 (.pure 6 (.pure 7 (.eff 8 [] (.pure 9 .fin) .nil)))))))))
theorem rone_5 (l:List De) (dn:Int) (dnm dpl:List UInt8) (drs:List Rf) (dcs:List Cs) (g:Int) (hd:DcV ⟨5,dn,dnm,dpl,drs,dcs⟩) (hl:l.length≤1000) (hok:∀ d∈l,OkD d):Pure cx 89 [des l,(De.mk 5 dn dnm dpl drs dcs).pv,i64 g] (·=.ret [isl (preI l ⟨5,dn,dnm,dpl,drs,dcs⟩++(refsI l ⟨5,dn,dnm,dpl,drs,dcs⟩ [] drs++casesI l ⟨5,dn,dnm,dpl,drs,dcs⟩ g dcs))]):=by
 have hm:(l.map De.cells).length=l.length:=List.length_map ..
 have hdr:drs.length≤8:=hd.refs
 have hcs:dcs.length≤12:=hd.few
 have hca:∀ c∈dcs,CaV c:=hd.cases
 have hrn:∀ r∈drs,r.name ≠ []:=hd.ok.ok.refs
 have hbare:(5:Int)=1∨(5:Int)=5→dnm=[]:=hd.ok.ok.bare
 have hname:(5:Int)=2∨(5:Int)=3∨(5:Int)=4→dnm ≠ []:=hd.ok.ok.name
 have hplate:¬ (5:Int)=3→dpl=[]:=hd.ok.ok.plate
 have t1:=preI_len l ⟨5,dn,dnm,dpl,drs,dcs⟩
 have t2:=refsI_len l ⟨5,dn,dnm,dpl,drs,dcs⟩ drs []
 have t3:=casesI_len l ⟨5,dn,dnm,dpl,drs,dcs⟩ g dcs hca
 have hpl:=hplate (by decide)
 obtain⟨dum,hpre5⟩:∃ dum:List Iss,dum=[]:=⟨_,rfl⟩
 have hpre:preI l ⟨5,dn,dnm,dpl,drs,dcs⟩=dum:=by rw [hpre5];rfl
 have hT0:=found_c l dnm hl hok
 rw [fndV,fnd,if_pos (hbare (.inr rfl))] at hT0
 refine pure_of_vc Tryz.func89 rfl rfl rfl ?_
 apply cut
 case h=>
  intro key
  refine And.intro (fun h=>absurd (show(5:Int)=1 from h) (by decide)) (fun _=>?_)
  refine hT0.eq rfl ?_
  refine And.intro (fun h=>absurd (show(5:Int)=2 from h) (by decide)) (fun _=>?_)
  refine And.intro (fun _=>?_) (fun h=>absurd hpl h)
  refine And.intro (fun h=>absurd (show(5:Int)=3 from h) (by decide)) (fun _=>?_)
  refine And.intro (fun h=>absurd (show(5:Int)=4 from h) (by decide)) (fun _=>?_)
  exact⟨Nat × List Iss,(fun x=>[(0, .p (des l)),(2, .p (i64 g)),(4, .ptr 0 0 0),(7, .sl 1 3 0 x.2.length),(8, .p (i64 (l.map De.cells).length)),(13, .p (i64 x.1))]),(fun x=>⟨2,[(1,isO x.2),(0,dcO ⟨5,dn,dnm,dpl,drs,dcs⟩)]⟩),(fun x=>x.1≤drs.length∧x.2++refsI l ⟨5,dn,dnm,dpl,drs,dcs⟩ (drs.take x.1) (drs.drop x.1)=preI l ⟨5,dn,dnm,dpl,drs,dcs⟩++refsI l ⟨5,dn,dnm,dpl,drs,dcs⟩ [] drs),(fun x=>drs.length - x.1),⟨(0,[]),⟨Nat.zero_le _,by show []++_=_;rw [hpre,hpre5];rfl⟩,ent_of [] [] [(1,3)] rfl (sk) (sk) rfl⟩,key.get⟩
 case k=>
  rintro⟨k,cur⟩ ⟨k1,k2⟩
  simp only [] at k1 k2
  have hcl:cur.length≤400:=by
   have e:=congrArg List.length k2
   rw [List.length_append,List.length_append] at e
   omega
  (first | refine brLt (fun m1=>?_) (fun m1=>?_) | refine brLe (fun m1=>?_) (fun m1=>?_) | refine brEq (fun m1=>?_) (fun m1=>?_))
  rotate_left
  ·have m1:¬ (k:Int)<((drs.map Rf.cells).length:Nat):=m1
   rw [List.length_map] at m1
   rw [List.drop_eq_nil_of_le (by omega),refsI,List.append_nil] at k2
   refine⟨Nat × List Iss,fun x=>[(0, .p (des l)),(2, .p (i64 g)),(4, .ptr 0 0 0),(7, .sl 1 3 0 x.2.length),(8, .p (i64 (l.map De.cells).length)),(17, .p (i64 x.1))],fun x=>⟨2,[(1,isO x.2),(0,dcO ⟨5,dn,dnm,dpl,drs,dcs⟩)]⟩,fun x=>x.1≤dcs.length∧x.2++casesI l ⟨5,dn,dnm,dpl,drs,dcs⟩ g (dcs.drop x.1)=cur++casesI l ⟨5,dn,dnm,dpl,drs,dcs⟩ g dcs,fun x=>dcs.length - x.1,?_,?_⟩
   ·exact⟨(0,cur),⟨Nat.zero_le _,rfl⟩,ent_of [] [] [] rfl (sk) (sk) rfl⟩
   rintro⟨j,cu⟩ ⟨j1,j2⟩
   simp only [] at j1 j2
   have htot:(cur++casesI l ⟨5,dn,dnm,dpl,drs,dcs⟩ g dcs).length≤1000:=by rw [List.length_append];omega
   (first | refine brLt (fun n1=>?_) (fun n1=>?_) | refine brLe (fun n1=>?_) (fun n1=>?_) | refine brEq (fun n1=>?_) (fun n1=>?_))
   rotate_left
   ·have n1:¬ (j:Int)<((dcs.map Cs.cells).length:Nat):=n1
    rw [List.length_map] at n1
    rw [List.drop_eq_nil_of_le (by omega),show casesI l ⟨5,dn,dnm,dpl,drs,dcs⟩ g []=[] from rfl,List.append_nil] at j2
    exact end1 (isl cu) rfl ⟨_,rfl,by show 0+cu.length≤(cu.map Iss.cells).length;simp,takeAll (by simp)⟩ (by rw [j2,k2,List.append_assoc])
   have n1:(j:Int)<((dcs.map Cs.cells).length:Nat):=n1
   rw [List.length_map] at n1
   have hj:j<dcs.length:=by omega
   have hcell:=scell hj
   have hx:=(hca _ (getD_memL cs0 hj)).ok
   rw [dropD cs0 hj,casesI_step,← List.append_assoc,← List.append_assoc] at j2
   rw [← j2,List.length_append,List.length_append] at htot
   generalize dcs.getD j cs0=x at hcell hx j2 htot
   obtain⟨⟨xo,xn,xr,xv,xf,xs,xa⟩,xw⟩:=x
   obtain⟨x1,x2,x3⟩:=hx
   simp only [] at x1 x2 x3 j2 htot
   have hr:=scrrow_c ⟨5,dn,dnm,dpl,drs,dcs⟩ xw g x2 x3
   refine vdraw_ot otO36 (by kernel_rfl) ?_
   refine⟨_,⟨by omega,(⟨.mk xo xn xr xv xf xs xa,xw⟩:Cs).cells,hcell,rfl⟩,?_⟩
   refine(rcond_h l ⟨5,dn,dnm,dpl,drs,dcs⟩ (by show drs.length≤100;omega) hl hok _ (.mk xo xn xr xv xf xs xa) cu (Nat.le_refl _) x1 (by omega)).holds.useT [] [(0,1)] rfl (sk) (sk) fun e0 H0 hq=>?_
   obtain⟨rfl,rfl⟩:=hq
   have hnl:(cu++condI l ⟨5,dn,dnm,dpl,drs,dcs⟩ (.mk xo xn xr xv xf xs xa)).length≤1000:=by omega
   generalize cu++condI l ⟨5,dn,dnm,dpl,drs,dcs⟩ (.mk xo xn xr xv xf xs xa)=nxt at j2 hnl ⊢
   refine⟨rfl,_,⟨3,(2,isO nxt)::[(0,dcO ⟨5,dn,dnm,dpl,drs,dcs⟩)]⟩,rfl,rfl,?_⟩
   refine vdraw_ot otO37 (by kernel_rfl) ?_
   refine⟨_,⟨by omega,(⟨.mk xo xn xr xv xf xs xa,xw⟩:Cs).cells,hcell,rfl⟩,?_⟩
   by_cases hrow:rowI ⟨5,dn,dnm,dpl,drs,dcs⟩ xw g=true
   ·rw [hrow] at hr j2
    rw [if_pos rfl,List.append_nil] at j2
    refine hr.eq rfl ?_
    refine⟨_,wrap_i64 (by omega) (by omega),?_⟩
    exact⟨(j+1,nxt),⟨by show j+1≤dcs.length;omega,j2⟩,ent_of [] [(1,2)] [] rfl (sk) (sk) rfl,by show dcs.length - (j+1)<dcs.length - j;omega⟩
   ·rw [Bool.not_eq_true] at hrow
    rw [hrow] at hr j2
    rw [if_neg (by decide),← hm] at j2
    refine hr.eq rfl ?_
    refine⟨by show 0+1≤1;omega,[Iss.cells (Iss.mk 9 ((l.map De.cells).length:Nat) [])],rfl,?_⟩
    refine⟨by show 0+(nxt.length)≤((nxt).map Iss.cells).length;simp,(nxt).map Iss.cells,takeAll (by simp),by show((nxt.length)+1) * 32≤140737488355328;omega,((nxt)++[Iss.mk 9 ((l.map De.cells).length:Nat) []]).map Iss.cells,by rw [List.map_append];rfl,?_⟩
    refine⟨_,wrap_i64 (by omega) (by omega),?_⟩
    exact⟨(j+1,nxt++[Iss.mk 9 ((l.map De.cells).length:Nat) []]),⟨by show j+1≤dcs.length;omega,j2⟩,ent_of [] [(1,4)] [] rfl ⟨rfl,rfl,⟨rfl,rfl⟩,congrArg (fun j:Nat=>AV.sl 4 3 0 j) (snoc_len _ _).symm,rfl,rfl,trivial⟩ (sk) rfl,by show dcs.length - (j+1)<dcs.length - j;omega⟩
  have m1:(k:Int)<((drs.map Rf.cells).length:Nat):=m1
  rw [List.length_map] at m1
  have hk:k<drs.length:=by omega
  have hcell:=rcell hk
  have hxn:=hrn _ (getD_memL rf0 hk)
  have hstep:refsI l ⟨5,dn,dnm,dpl,drs,dcs⟩ (drs.take k) (drs.drop k)=(if drs.getD k rf0∈drs.take k then [⟨2,((l.map De.cells).length:Nat),(drs.getD k rf0).name⟩] else [])++(noteI (refI l ⟨5,dn,dnm,dpl,drs,dcs⟩ (drs.getD k rf0)) ((l.map De.cells).length:Nat) (drs.getD k rf0).name++refsI l ⟨5,dn,dnm,dpl,drs,dcs⟩ (drs.take (k+1)) (drs.drop (k+1))):=by
   rw [dropD rf0 hk,refsI,hm,take_succ_getD rf0 hk]
  generalize drs.getD k rf0=x at hcell hxn hstep
  have hRf:=scref_c l ⟨5,dn,dnm,dpl,drs,dcs⟩ x hxn hl hok
  have hnn:=refI_nn l ⟨5,dn,dnm,dpl,drs,dcs⟩ x
  generalize refI l ⟨5,dn,dnm,dpl,drs,dcs⟩ x=kk at hRf hnn hstep
  refine⟨Nat × Bool,fun y=>[(0, .p (des l)),(2, .p (i64 g)),(4, .ptr 0 0 0),(7, .sl 1 3 0 cur.length),(8, .p (i64 (l.map De.cells).length)),(13, .p (i64 k)),(14, .p (.bool y.2)),(15, .p (i64 y.1))],fun _=>⟨2,[(1,isO cur),(0,dcO ⟨5,dn,dnm,dpl,drs,dcs⟩)]⟩,fun y=>y.1≤k∧y.2=decide (x∈drs.take y.1),fun y=>k - y.1,?_,?_⟩
  ·exact⟨(0,false),⟨Nat.zero_le _,by simp⟩,ent_of [] [] [] rfl (sk) (sk) rfl⟩
  rintro⟨j,b⟩ ⟨j1,j2⟩
  simp only [] at j1 j2
  cases b
  ·(first | refine brLt (fun n1=>?_) (fun n1=>?_) | refine brLe (fun n1=>?_) (fun n1=>?_) | refine brEq (fun n1=>?_) (fun n1=>?_))
   ·have n1:(j:Int)<(k:Nat):=n1
    have hj:j<drs.length:=by omega
    have hcj:=rcell hj
    have hnx:(x∈drs.take (j+1)) ↔ (x∈drs.take j∨x=drs.getD j rf0):=by rw [take_succ_getD rf0 hj,List.mem_append,List.mem_singleton]
    generalize drs.getD j rf0=y at hcj hnx
    refine vdraw_ot otO27 (by kernel_rfl) ?_
    refine⟨_,⟨by omega,y.cells,hcj,rfl⟩,?_⟩
    refine⟨_,⟨by omega,x.cells,hcell,rfl⟩,?_⟩
    refine⟨⟨by kernel_rfl,by kernel_rfl⟩,fun e1=>?_,fun e1=>?_⟩
    ·have e1:y=x:=rf_ext (by first | exact e1 | (injection e1))
     refine⟨_,wrap_i64 (by omega) (by omega),?_⟩
     exact⟨(j+1,true),⟨by show j+1≤k;omega,(decide_eq_true (hnx.2 (.inr e1.symm))).symm⟩,ent_of [] [] [] rfl (sk) (sk) rfl,by show k - (j+1)<k - j;omega⟩
    ·have e1:¬ y=x:=fun e=>e1 (by rw [e])
     have hno:¬ x∈drs.take j:=of_decide_eq_false j2.symm
     refine⟨_,wrap_i64 (by omega) (by omega),?_⟩
     exact⟨(j+1,false),⟨by show j+1≤k;omega,(decide_eq_false (fun h=>(hnx.1 h).elim hno fun e=>e1 e.symm)).symm⟩,ent_of [] [] [] rfl (sk) (sk) rfl,by show k - (j+1)<k - j;omega⟩
   ·have n1:¬ (j:Int)<(k:Nat):=n1
    have hjk:j=k:=by omega
    have hno:¬ x∈drs.take k:=by rw [hjk] at j2;exact of_decide_eq_false j2.symm
    rw [if_neg hno] at hstep
    clear hjk n1 j1 j2
    refine vdraw_ot otO30 (by kernel_rfl) ?_
    refine⟨_,⟨by omega,x.cells,hcell,rfl⟩,?_⟩
    refine hRf.eq rfl ?_
    refine brLt (fun z=>?_) (fun z=>?_)
    ·have z:0<kk:=z
     rw [noteI,if_neg (show ¬ kk=0 by omega)] at hstep
     refine⟨_,⟨by omega,x.cells,hcell,rfl⟩,?_⟩
     refine⟨by show 0+1≤1;omega,[Iss.cells (Iss.mk kk ((l.map De.cells).length:Nat) x.name)],rfl,?_⟩
     refine⟨by show 0+(cur.length)≤((cur).map Iss.cells).length;simp,(cur).map Iss.cells,takeAll (by simp),by show((cur.length)+1) * 32≤140737488355328;omega,((cur)++[Iss.mk kk ((l.map De.cells).length:Nat) x.name]).map Iss.cells,by rw [List.map_append];rfl,?_⟩
     refine⟨_,wrap_i64 (by omega) (by omega),?_⟩
     exact⟨(k+1,(cur)++[Iss.mk kk ((l.map De.cells).length:Nat) x.name]),⟨by show k+1≤drs.length;omega,by rw [← k2];rw [hstep,List.append_assoc] <;> rfl⟩,ent_of [] [(1,3)] [] rfl ⟨rfl,rfl,⟨rfl,rfl⟩,congrArg (fun j:Nat=>AV.sl 3 3 0 j) (snoc_len cur _).symm,rfl,rfl,trivial⟩ (sk) rfl,by show drs.length - (k+1)<drs.length - k;omega⟩
    ·have z:¬ 0<kk:=z
     rw [noteI,if_pos (show kk=0 by omega)] at hstep
     refine⟨_,wrap_i64 (by omega) (by omega),?_⟩
     exact⟨(k+1,cur),⟨by show k+1≤drs.length;omega,by rw [← k2];rw [hstep] <;> rfl⟩,ent_of [] [(1,1)] [] rfl ⟨rfl,rfl,⟨rfl,rfl⟩,rfl,rfl,rfl,trivial⟩ (sk) rfl,by show drs.length - (k+1)<drs.length - k;omega⟩
  ·(first | refine brLt (fun n1=>?_) (fun n1=>?_) | refine brLe (fun n1=>?_) (fun n1=>?_) | refine brEq (fun n1=>?_) (fun n1=>?_))
   ·have n1:(j:Int)<(k:Nat):=n1
    have hj:j<drs.length:=by omega
    have hnx:(x∈drs.take (j+1)) ↔ (x∈drs.take j∨x=drs.getD j rf0):=by rw [take_succ_getD rf0 hj,List.mem_append,List.mem_singleton]
    have hyes:x∈drs.take j:=of_decide_eq_true j2.symm
    refine vdraw_ot otO27 (by kernel_rfl) ?_
    refine⟨_,wrap_i64 (by omega) (by omega),?_⟩
    exact⟨(j+1,true),⟨by show j+1≤k;omega,(decide_eq_true (hnx.2 (.inl hyes))).symm⟩,ent_of [] [] [] rfl (sk) (sk) rfl,by show k - (j+1)<k - j;omega⟩
   ·have n1:¬ (j:Int)<(k:Nat):=n1
    have hjk:j=k:=by omega
    have hyes:x∈drs.take k:=by rw [hjk] at j2;exact of_decide_eq_true j2.symm
    rw [if_pos hyes] at hstep
    clear hjk n1 j1 j2
    refine⟨_,⟨by omega,x.cells,hcell,rfl⟩,?_⟩
    refine⟨by show 0+1≤1;omega,[Iss.cells (Iss.mk 2 ((l.map De.cells).length:Nat) x.name)],rfl,?_⟩
    refine⟨by show 0+(cur.length)≤((cur).map Iss.cells).length;simp,(cur).map Iss.cells,takeAll (by simp),by show((cur.length)+1) * 32≤140737488355328;omega,((cur)++[Iss.mk 2 ((l.map De.cells).length:Nat) x.name]).map Iss.cells,by rw [List.map_append];rfl,?_⟩
    refine vdraw_ot otO30 (by kernel_rfl) ?_
    refine⟨_,⟨by omega,x.cells,hcell,rfl⟩,?_⟩
    refine hRf.eq rfl ?_
    refine brLt (fun z=>?_) (fun z=>?_)
    ·have z:0<kk:=z
     rw [noteI,if_neg (show ¬ kk=0 by omega)] at hstep
     refine⟨_,⟨by omega,x.cells,hcell,rfl⟩,?_⟩
     refine⟨by show 0+1≤1;omega,[Iss.cells (Iss.mk kk ((l.map De.cells).length:Nat) x.name)],rfl,?_⟩
     refine⟨by show 0+(cur.length+1)≤((cur++[Iss.mk 2 ((l.map De.cells).length:Nat) x.name]).map Iss.cells).length;simp,(cur++[Iss.mk 2 ((l.map De.cells).length:Nat) x.name]).map Iss.cells,takeAll (by simp),by show((cur.length+1)+1) * 32≤140737488355328;omega,((cur++[Iss.mk 2 ((l.map De.cells).length:Nat) x.name])++[Iss.mk kk ((l.map De.cells).length:Nat) x.name]).map Iss.cells,by rw [List.map_append];rfl,?_⟩
     refine⟨_,wrap_i64 (by omega) (by omega),?_⟩
     exact⟨(k+1,(cur++[Iss.mk 2 ((l.map De.cells).length:Nat) x.name])++[Iss.mk kk ((l.map De.cells).length:Nat) x.name]),⟨by show k+1≤drs.length;omega,by rw [← k2];rw [hstep,List.append_assoc,List.append_assoc] <;> rfl⟩,ent_of [] [(1,5)] [] rfl ⟨rfl,rfl,⟨rfl,rfl⟩,congrArg (fun j:Nat=>AV.sl 5 3 0 j) ((snoc_len _ _).trans (congrArg (fun z:Nat=>z+1) (snoc_len cur _))).symm,rfl,rfl,trivial⟩ (sk) rfl,by show drs.length - (k+1)<drs.length - k;omega⟩
    ·have z:¬ 0<kk:=z
     rw [noteI,if_pos (show kk=0 by omega)] at hstep
     refine⟨_,wrap_i64 (by omega) (by omega),?_⟩
     exact⟨(k+1,cur++[Iss.mk 2 ((l.map De.cells).length:Nat) x.name]),⟨by show k+1≤drs.length;omega,by rw [← k2];rw [hstep,List.append_assoc] <;> rfl⟩,ent_of [] [(1,3)] [] rfl ⟨rfl,rfl,⟨rfl,rfl⟩,congrArg (fun j:Nat=>AV.sl 3 3 0 j) (snoc_len cur _).symm,rfl,rfl,trivial⟩ (sk) rfl,by show drs.length - (k+1)<drs.length - k;omega⟩
theorem rone_4 (l:List De) (dn:Int) (dnm dpl:List UInt8) (drs:List Rf) (dcs:List Cs) (g:Int) (hd:DcV ⟨4,dn,dnm,dpl,drs,dcs⟩) (hl:l.length≤1000) (hok:∀ d∈l,OkD d):Pure cx 89 [des l,(De.mk 4 dn dnm dpl drs dcs).pv,i64 g] (·=.ret [isl (preI l ⟨4,dn,dnm,dpl,drs,dcs⟩++(refsI l ⟨4,dn,dnm,dpl,drs,dcs⟩ [] drs++casesI l ⟨4,dn,dnm,dpl,drs,dcs⟩ g dcs))]):=by
 have hm:(l.map De.cells).length=l.length:=List.length_map ..
 have hdr:drs.length≤8:=hd.refs
 have hcs:dcs.length≤12:=hd.few
 have hca:∀ c∈dcs,CaV c:=hd.cases
 have hrn:∀ r∈drs,r.name ≠ []:=hd.ok.ok.refs
 have hbare:(4:Int)=1∨(4:Int)=5→dnm=[]:=hd.ok.ok.bare
 have hname:(4:Int)=2∨(4:Int)=3∨(4:Int)=4→dnm ≠ []:=hd.ok.ok.name
 have hplate:¬ (4:Int)=3→dpl=[]:=hd.ok.ok.plate
 have t1:=preI_len l ⟨4,dn,dnm,dpl,drs,dcs⟩
 have t2:=refsI_len l ⟨4,dn,dnm,dpl,drs,dcs⟩ drs []
 have t3:=casesI_len l ⟨4,dn,dnm,dpl,drs,dcs⟩ g dcs hca
 have hnm:=hname (.inr (.inr rfl))
 have hpl:=hplate (by decide)
 have hpre:preI l ⟨4,dn,dnm,dpl,drs,dcs⟩=twiceI l ⟨4,dn,dnm,dpl,drs,dcs⟩++cardI l ⟨4,dn,dnm,dpl,drs,dcs⟩:=rfl
 have hT:=twice_cases l (d:=⟨4,dn,dnm,dpl,drs,dcs⟩) hnm hl hok
 refine pure_of_vc Tryz.func89 rfl rfl rfl ?_
 apply cut
 case h=>
  intro key
  refine And.intro (fun h=>absurd (show(4:Int)=1 from h) (by decide)) (fun _=>?_)
  refine Or.elim hT (fun hT=>?_) (fun hT=>?_)
  ·obtain⟨hT1,hT2⟩:=hT
   refine hT2.eq rfl ?_
   refine And.intro (fun h=>absurd (show(4:Int)=2 from h) (by decide)) (fun _=>?_)
   refine And.intro (fun _=>?_) (fun h=>absurd hpl h)
   refine And.intro (fun h=>absurd (show(4:Int)=3 from h) (by decide)) (fun _=>?_)
   refine And.intro (fun _=>?_) (fun h=>absurd rfl h)
   refine brLt (fun c1=>?_) (fun c1=>?_)
   ·have c1:dn<2:=c1
    have hc:cardI l ⟨4,dn,dnm,dpl,drs,dcs⟩=[Iss.mk 6 ((l.map De.cells).length:Nat) dnm]:=by rw [cardI,if_pos (.inl c1),hm]
    refine⟨by show 0+1≤1;omega,[Iss.cells (Iss.mk 6 ((l.map De.cells).length:Nat) dnm)],rfl,?_⟩
    refine⟨by show 1 * 32≤140737488355328;decide,?_⟩
    exact⟨Nat × List Iss,(fun x=>[(0, .p (des l)),(2, .p (i64 g)),(4, .ptr 0 0 0),(7, .sl 1 3 0 x.2.length),(8, .p (i64 (l.map De.cells).length)),(13, .p (i64 x.1))]),(fun x=>⟨2,[(1,isO x.2),(0,dcO ⟨4,dn,dnm,dpl,drs,dcs⟩)]⟩),(fun x=>x.1≤drs.length∧x.2++refsI l ⟨4,dn,dnm,dpl,drs,dcs⟩ (drs.take x.1) (drs.drop x.1)=preI l ⟨4,dn,dnm,dpl,drs,dcs⟩++refsI l ⟨4,dn,dnm,dpl,drs,dcs⟩ [] drs),(fun x=>drs.length - x.1),⟨(0,[Iss.mk 6 ((l.map De.cells).length:Nat) dnm]),⟨Nat.zero_le _,by show [Iss.mk 6 ((l.map De.cells).length:Nat) dnm]++_=_;rw [hpre,hT1,hc];rfl⟩,ent_of [] [(1,3)] [] rfl (sk) (sk) rfl⟩,key.get⟩
   have c1:¬ dn<2:=c1
   refine brLt (fun c2=>?_) (fun c2=>?_)
   ·have c2:4<dn:=c2
    have hc:cardI l ⟨4,dn,dnm,dpl,drs,dcs⟩=[Iss.mk 6 ((l.map De.cells).length:Nat) dnm]:=by rw [cardI,if_pos (.inr c2),hm]
    refine⟨by show 0+1≤1;omega,[Iss.cells (Iss.mk 6 ((l.map De.cells).length:Nat) dnm)],rfl,?_⟩
    refine⟨by show 1 * 32≤140737488355328;decide,?_⟩
    exact⟨Nat × List Iss,(fun x=>[(0, .p (des l)),(2, .p (i64 g)),(4, .ptr 0 0 0),(7, .sl 1 3 0 x.2.length),(8, .p (i64 (l.map De.cells).length)),(13, .p (i64 x.1))]),(fun x=>⟨2,[(1,isO x.2),(0,dcO ⟨4,dn,dnm,dpl,drs,dcs⟩)]⟩),(fun x=>x.1≤drs.length∧x.2++refsI l ⟨4,dn,dnm,dpl,drs,dcs⟩ (drs.take x.1) (drs.drop x.1)=preI l ⟨4,dn,dnm,dpl,drs,dcs⟩++refsI l ⟨4,dn,dnm,dpl,drs,dcs⟩ [] drs),(fun x=>drs.length - x.1),⟨(0,[Iss.mk 6 ((l.map De.cells).length:Nat) dnm]),⟨Nat.zero_le _,by show [Iss.mk 6 ((l.map De.cells).length:Nat) dnm]++_=_;rw [hpre,hT1,hc];rfl⟩,ent_of [] [(1,3)] [] rfl (sk) (sk) rfl⟩,key.get⟩
   ·have c2:¬ 4<dn:=c2
    have hc:cardI l ⟨4,dn,dnm,dpl,drs,dcs⟩=[]:=by rw [cardI,if_neg (show ¬ (dn<2∨4<dn) by omega)]
    exact⟨Nat × List Iss,(fun x=>[(0, .p (des l)),(2, .p (i64 g)),(4, .ptr 0 0 0),(7, .sl 1 3 0 x.2.length),(8, .p (i64 (l.map De.cells).length)),(13, .p (i64 x.1))]),(fun x=>⟨2,[(1,isO x.2),(0,dcO ⟨4,dn,dnm,dpl,drs,dcs⟩)]⟩),(fun x=>x.1≤drs.length∧x.2++refsI l ⟨4,dn,dnm,dpl,drs,dcs⟩ (drs.take x.1) (drs.drop x.1)=preI l ⟨4,dn,dnm,dpl,drs,dcs⟩++refsI l ⟨4,dn,dnm,dpl,drs,dcs⟩ [] drs),(fun x=>drs.length - x.1),⟨(0,[]),⟨Nat.zero_le _,by show []++_=_;rw [hpre,hT1,hc];rfl⟩,ent_of [] [] [(1,3)] rfl (sk) (sk) rfl⟩,key.get⟩
  ·obtain⟨z1,z2,z3,z4,z5,hT1,hT2⟩:=hT
   refine hT2.eq rfl ?_
   refine And.intro (fun h=>absurd h hnm) (fun _=>?_)
   refine⟨by show 0+1≤1;omega,[Iss.cells (Iss.mk 2 ((l.map De.cells).length:Nat) dnm)],rfl,?_⟩
   refine⟨by show 1 * 32≤140737488355328;decide,?_⟩
   refine And.intro (fun h=>absurd (show(4:Int)=2 from h) (by decide)) (fun _=>?_)
   refine And.intro (fun _=>?_) (fun h=>absurd hpl h)
   refine And.intro (fun h=>absurd (show(4:Int)=3 from h) (by decide)) (fun _=>?_)
   refine And.intro (fun _=>?_) (fun h=>absurd rfl h)
   refine brLt (fun c1=>?_) (fun c1=>?_)
   ·have c1:dn<2:=c1
    have hc:cardI l ⟨4,dn,dnm,dpl,drs,dcs⟩=[Iss.mk 6 ((l.map De.cells).length:Nat) dnm]:=by rw [cardI,if_pos (.inl c1),hm]
    refine⟨by show 0+1≤1;omega,[Iss.cells (Iss.mk 6 ((l.map De.cells).length:Nat) dnm)],rfl,?_⟩
    refine⟨by show 0+1≤1;decide,[Iss.cells (Iss.mk 2 ((l.map De.cells).length:Nat) dnm)],rfl,by show(1+1) * 32≤140737488355328;decide,[Iss.cells (Iss.mk 2 ((l.map De.cells).length:Nat) dnm),Iss.cells (Iss.mk 6 ((l.map De.cells).length:Nat) dnm)],rfl,?_⟩
    exact⟨Nat × List Iss,(fun x=>[(0, .p (des l)),(2, .p (i64 g)),(4, .ptr 0 0 0),(7, .sl 1 3 0 x.2.length),(8, .p (i64 (l.map De.cells).length)),(13, .p (i64 x.1))]),(fun x=>⟨2,[(1,isO x.2),(0,dcO ⟨4,dn,dnm,dpl,drs,dcs⟩)]⟩),(fun x=>x.1≤drs.length∧x.2++refsI l ⟨4,dn,dnm,dpl,drs,dcs⟩ (drs.take x.1) (drs.drop x.1)=preI l ⟨4,dn,dnm,dpl,drs,dcs⟩++refsI l ⟨4,dn,dnm,dpl,drs,dcs⟩ [] drs),(fun x=>drs.length - x.1),⟨(0,[Iss.mk 2 ((l.map De.cells).length:Nat) dnm,Iss.mk 6 ((l.map De.cells).length:Nat) dnm]),⟨Nat.zero_le _,by show [Iss.mk 2 ((l.map De.cells).length:Nat) dnm,Iss.mk 6 ((l.map De.cells).length:Nat) dnm]++_=_;rw [hpre,hT1,hc];rfl⟩,ent_of [] [(1,5)] [] rfl (sk) (sk) rfl⟩,key.get⟩
   have c1:¬ dn<2:=c1
   refine brLt (fun c2=>?_) (fun c2=>?_)
   ·have c2:4<dn:=c2
    have hc:cardI l ⟨4,dn,dnm,dpl,drs,dcs⟩=[Iss.mk 6 ((l.map De.cells).length:Nat) dnm]:=by rw [cardI,if_pos (.inr c2),hm]
    refine⟨by show 0+1≤1;omega,[Iss.cells (Iss.mk 6 ((l.map De.cells).length:Nat) dnm)],rfl,?_⟩
    refine⟨by show 0+1≤1;decide,[Iss.cells (Iss.mk 2 ((l.map De.cells).length:Nat) dnm)],rfl,by show(1+1) * 32≤140737488355328;decide,[Iss.cells (Iss.mk 2 ((l.map De.cells).length:Nat) dnm),Iss.cells (Iss.mk 6 ((l.map De.cells).length:Nat) dnm)],rfl,?_⟩
    exact⟨Nat × List Iss,(fun x=>[(0, .p (des l)),(2, .p (i64 g)),(4, .ptr 0 0 0),(7, .sl 1 3 0 x.2.length),(8, .p (i64 (l.map De.cells).length)),(13, .p (i64 x.1))]),(fun x=>⟨2,[(1,isO x.2),(0,dcO ⟨4,dn,dnm,dpl,drs,dcs⟩)]⟩),(fun x=>x.1≤drs.length∧x.2++refsI l ⟨4,dn,dnm,dpl,drs,dcs⟩ (drs.take x.1) (drs.drop x.1)=preI l ⟨4,dn,dnm,dpl,drs,dcs⟩++refsI l ⟨4,dn,dnm,dpl,drs,dcs⟩ [] drs),(fun x=>drs.length - x.1),⟨(0,[Iss.mk 2 ((l.map De.cells).length:Nat) dnm,Iss.mk 6 ((l.map De.cells).length:Nat) dnm]),⟨Nat.zero_le _,by show [Iss.mk 2 ((l.map De.cells).length:Nat) dnm,Iss.mk 6 ((l.map De.cells).length:Nat) dnm]++_=_;rw [hpre,hT1,hc];rfl⟩,ent_of [] [(1,5)] [] rfl (sk) (sk) rfl⟩,key.get⟩
   ·have c2:¬ 4<dn:=c2
    have hc:cardI l ⟨4,dn,dnm,dpl,drs,dcs⟩=[]:=by rw [cardI,if_neg (show ¬ (dn<2∨4<dn) by omega)]
    exact⟨Nat × List Iss,(fun x=>[(0, .p (des l)),(2, .p (i64 g)),(4, .ptr 0 0 0),(7, .sl 1 3 0 x.2.length),(8, .p (i64 (l.map De.cells).length)),(13, .p (i64 x.1))]),(fun x=>⟨2,[(1,isO x.2),(0,dcO ⟨4,dn,dnm,dpl,drs,dcs⟩)]⟩),(fun x=>x.1≤drs.length∧x.2++refsI l ⟨4,dn,dnm,dpl,drs,dcs⟩ (drs.take x.1) (drs.drop x.1)=preI l ⟨4,dn,dnm,dpl,drs,dcs⟩++refsI l ⟨4,dn,dnm,dpl,drs,dcs⟩ [] drs),(fun x=>drs.length - x.1),⟨(0,[Iss.mk 2 ((l.map De.cells).length:Nat) dnm]),⟨Nat.zero_le _,by show [Iss.mk 2 ((l.map De.cells).length:Nat) dnm]++_=_;rw [hpre,hT1,hc];rfl⟩,ent_of [] [(1,3)] [] rfl (sk) (sk) rfl⟩,key.get⟩
 case k=>
  rintro⟨k,cur⟩ ⟨k1,k2⟩
  simp only [] at k1 k2
  have hcl:cur.length≤400:=by
   have e:=congrArg List.length k2
   rw [List.length_append,List.length_append] at e
   omega
  (first | refine brLt (fun m1=>?_) (fun m1=>?_) | refine brLe (fun m1=>?_) (fun m1=>?_) | refine brEq (fun m1=>?_) (fun m1=>?_))
  rotate_left
  ·have m1:¬ (k:Int)<((drs.map Rf.cells).length:Nat):=m1
   rw [List.length_map] at m1
   rw [List.drop_eq_nil_of_le (by omega),refsI,List.append_nil] at k2
   refine⟨Nat × List Iss,fun x=>[(0, .p (des l)),(2, .p (i64 g)),(4, .ptr 0 0 0),(7, .sl 1 3 0 x.2.length),(8, .p (i64 (l.map De.cells).length)),(17, .p (i64 x.1))],fun x=>⟨2,[(1,isO x.2),(0,dcO ⟨4,dn,dnm,dpl,drs,dcs⟩)]⟩,fun x=>x.1≤dcs.length∧x.2++casesI l ⟨4,dn,dnm,dpl,drs,dcs⟩ g (dcs.drop x.1)=cur++casesI l ⟨4,dn,dnm,dpl,drs,dcs⟩ g dcs,fun x=>dcs.length - x.1,?_,?_⟩
   ·exact⟨(0,cur),⟨Nat.zero_le _,rfl⟩,ent_of [] [] [] rfl (sk) (sk) rfl⟩
   rintro⟨j,cu⟩ ⟨j1,j2⟩
   simp only [] at j1 j2
   have htot:(cur++casesI l ⟨4,dn,dnm,dpl,drs,dcs⟩ g dcs).length≤1000:=by rw [List.length_append];omega
   (first | refine brLt (fun n1=>?_) (fun n1=>?_) | refine brLe (fun n1=>?_) (fun n1=>?_) | refine brEq (fun n1=>?_) (fun n1=>?_))
   rotate_left
   ·have n1:¬ (j:Int)<((dcs.map Cs.cells).length:Nat):=n1
    rw [List.length_map] at n1
    rw [List.drop_eq_nil_of_le (by omega),show casesI l ⟨4,dn,dnm,dpl,drs,dcs⟩ g []=[] from rfl,List.append_nil] at j2
    exact end1 (isl cu) rfl ⟨_,rfl,by show 0+cu.length≤(cu.map Iss.cells).length;simp,takeAll (by simp)⟩ (by rw [j2,k2,List.append_assoc])
   have n1:(j:Int)<((dcs.map Cs.cells).length:Nat):=n1
   rw [List.length_map] at n1
   have hj:j<dcs.length:=by omega
   have hcell:=scell hj
   have hx:=(hca _ (getD_memL cs0 hj)).ok
   rw [dropD cs0 hj,casesI_step,← List.append_assoc,← List.append_assoc] at j2
   rw [← j2,List.length_append,List.length_append] at htot
   generalize dcs.getD j cs0=x at hcell hx j2 htot
   obtain⟨⟨xo,xn,xr,xv,xf,xs,xa⟩,xw⟩:=x
   obtain⟨x1,x2,x3⟩:=hx
   simp only [] at x1 x2 x3 j2 htot
   have hr:=scrrow_c ⟨4,dn,dnm,dpl,drs,dcs⟩ xw g x2 x3
   refine vdraw_ot otO36 (by kernel_rfl) ?_
   refine⟨_,⟨by omega,(⟨.mk xo xn xr xv xf xs xa,xw⟩:Cs).cells,hcell,rfl⟩,?_⟩
   refine(rcond_h l ⟨4,dn,dnm,dpl,drs,dcs⟩ (by show drs.length≤100;omega) hl hok _ (.mk xo xn xr xv xf xs xa) cu (Nat.le_refl _) x1 (by omega)).holds.useT [] [(0,1)] rfl (sk) (sk) fun e0 H0 hq=>?_
   obtain⟨rfl,rfl⟩:=hq
   have hnl:(cu++condI l ⟨4,dn,dnm,dpl,drs,dcs⟩ (.mk xo xn xr xv xf xs xa)).length≤1000:=by omega
   generalize cu++condI l ⟨4,dn,dnm,dpl,drs,dcs⟩ (.mk xo xn xr xv xf xs xa)=nxt at j2 hnl ⊢
   refine⟨rfl,_,⟨3,(2,isO nxt)::[(0,dcO ⟨4,dn,dnm,dpl,drs,dcs⟩)]⟩,rfl,rfl,?_⟩
   refine vdraw_ot otO37 (by kernel_rfl) ?_
   refine⟨_,⟨by omega,(⟨.mk xo xn xr xv xf xs xa,xw⟩:Cs).cells,hcell,rfl⟩,?_⟩
   by_cases hrow:rowI ⟨4,dn,dnm,dpl,drs,dcs⟩ xw g=true
   ·rw [hrow] at hr j2
    rw [if_pos rfl,List.append_nil] at j2
    refine hr.eq rfl ?_
    refine⟨_,wrap_i64 (by omega) (by omega),?_⟩
    exact⟨(j+1,nxt),⟨by show j+1≤dcs.length;omega,j2⟩,ent_of [] [(1,2)] [] rfl (sk) (sk) rfl,by show dcs.length - (j+1)<dcs.length - j;omega⟩
   ·rw [Bool.not_eq_true] at hrow
    rw [hrow] at hr j2
    rw [if_neg (by decide),← hm] at j2
    refine hr.eq rfl ?_
    refine⟨by show 0+1≤1;omega,[Iss.cells (Iss.mk 9 ((l.map De.cells).length:Nat) [])],rfl,?_⟩
    refine⟨by show 0+(nxt.length)≤((nxt).map Iss.cells).length;simp,(nxt).map Iss.cells,takeAll (by simp),by show((nxt.length)+1) * 32≤140737488355328;omega,((nxt)++[Iss.mk 9 ((l.map De.cells).length:Nat) []]).map Iss.cells,by rw [List.map_append];rfl,?_⟩
    refine⟨_,wrap_i64 (by omega) (by omega),?_⟩
    exact⟨(j+1,nxt++[Iss.mk 9 ((l.map De.cells).length:Nat) []]),⟨by show j+1≤dcs.length;omega,j2⟩,ent_of [] [(1,4)] [] rfl ⟨rfl,rfl,⟨rfl,rfl⟩,congrArg (fun j:Nat=>AV.sl 4 3 0 j) (snoc_len _ _).symm,rfl,rfl,trivial⟩ (sk) rfl,by show dcs.length - (j+1)<dcs.length - j;omega⟩
  have m1:(k:Int)<((drs.map Rf.cells).length:Nat):=m1
  rw [List.length_map] at m1
  have hk:k<drs.length:=by omega
  have hcell:=rcell hk
  have hxn:=hrn _ (getD_memL rf0 hk)
  have hstep:refsI l ⟨4,dn,dnm,dpl,drs,dcs⟩ (drs.take k) (drs.drop k)=(if drs.getD k rf0∈drs.take k then [⟨2,((l.map De.cells).length:Nat),(drs.getD k rf0).name⟩] else [])++(noteI (refI l ⟨4,dn,dnm,dpl,drs,dcs⟩ (drs.getD k rf0)) ((l.map De.cells).length:Nat) (drs.getD k rf0).name++refsI l ⟨4,dn,dnm,dpl,drs,dcs⟩ (drs.take (k+1)) (drs.drop (k+1))):=by
   rw [dropD rf0 hk,refsI,hm,take_succ_getD rf0 hk]
  generalize drs.getD k rf0=x at hcell hxn hstep
  have hRf:=scref_c l ⟨4,dn,dnm,dpl,drs,dcs⟩ x hxn hl hok
  have hnn:=refI_nn l ⟨4,dn,dnm,dpl,drs,dcs⟩ x
  generalize refI l ⟨4,dn,dnm,dpl,drs,dcs⟩ x=kk at hRf hnn hstep
  refine⟨Nat × Bool,fun y=>[(0, .p (des l)),(2, .p (i64 g)),(4, .ptr 0 0 0),(7, .sl 1 3 0 cur.length),(8, .p (i64 (l.map De.cells).length)),(13, .p (i64 k)),(14, .p (.bool y.2)),(15, .p (i64 y.1))],fun _=>⟨2,[(1,isO cur),(0,dcO ⟨4,dn,dnm,dpl,drs,dcs⟩)]⟩,fun y=>y.1≤k∧y.2=decide (x∈drs.take y.1),fun y=>k - y.1,?_,?_⟩
  ·exact⟨(0,false),⟨Nat.zero_le _,by simp⟩,ent_of [] [] [] rfl (sk) (sk) rfl⟩
  rintro⟨j,b⟩ ⟨j1,j2⟩
  simp only [] at j1 j2
  cases b
  ·(first | refine brLt (fun n1=>?_) (fun n1=>?_) | refine brLe (fun n1=>?_) (fun n1=>?_) | refine brEq (fun n1=>?_) (fun n1=>?_))
   ·have n1:(j:Int)<(k:Nat):=n1
    have hj:j<drs.length:=by omega
    have hcj:=rcell hj
    have hnx:(x∈drs.take (j+1)) ↔ (x∈drs.take j∨x=drs.getD j rf0):=by rw [take_succ_getD rf0 hj,List.mem_append,List.mem_singleton]
    generalize drs.getD j rf0=y at hcj hnx
    refine vdraw_ot otO27 (by kernel_rfl) ?_
    refine⟨_,⟨by omega,y.cells,hcj,rfl⟩,?_⟩
    refine⟨_,⟨by omega,x.cells,hcell,rfl⟩,?_⟩
    refine⟨⟨by kernel_rfl,by kernel_rfl⟩,fun e1=>?_,fun e1=>?_⟩
    ·have e1:y=x:=rf_ext (by first | exact e1 | (injection e1))
     refine⟨_,wrap_i64 (by omega) (by omega),?_⟩
     exact⟨(j+1,true),⟨by show j+1≤k;omega,(decide_eq_true (hnx.2 (.inr e1.symm))).symm⟩,ent_of [] [] [] rfl (sk) (sk) rfl,by show k - (j+1)<k - j;omega⟩
    ·have e1:¬ y=x:=fun e=>e1 (by rw [e])
     have hno:¬ x∈drs.take j:=of_decide_eq_false j2.symm
     refine⟨_,wrap_i64 (by omega) (by omega),?_⟩
     exact⟨(j+1,false),⟨by show j+1≤k;omega,(decide_eq_false (fun h=>(hnx.1 h).elim hno fun e=>e1 e.symm)).symm⟩,ent_of [] [] [] rfl (sk) (sk) rfl,by show k - (j+1)<k - j;omega⟩
   ·have n1:¬ (j:Int)<(k:Nat):=n1
    have hjk:j=k:=by omega
    have hno:¬ x∈drs.take k:=by rw [hjk] at j2;exact of_decide_eq_false j2.symm
    rw [if_neg hno] at hstep
    clear hjk n1 j1 j2
    refine vdraw_ot otO30 (by kernel_rfl) ?_
    refine⟨_,⟨by omega,x.cells,hcell,rfl⟩,?_⟩
    refine hRf.eq rfl ?_
    refine brLt (fun z=>?_) (fun z=>?_)
    ·have z:0<kk:=z
     rw [noteI,if_neg (show ¬ kk=0 by omega)] at hstep
     refine⟨_,⟨by omega,x.cells,hcell,rfl⟩,?_⟩
     refine⟨by show 0+1≤1;omega,[Iss.cells (Iss.mk kk ((l.map De.cells).length:Nat) x.name)],rfl,?_⟩
     refine⟨by show 0+(cur.length)≤((cur).map Iss.cells).length;simp,(cur).map Iss.cells,takeAll (by simp),by show((cur.length)+1) * 32≤140737488355328;omega,((cur)++[Iss.mk kk ((l.map De.cells).length:Nat) x.name]).map Iss.cells,by rw [List.map_append];rfl,?_⟩
     refine⟨_,wrap_i64 (by omega) (by omega),?_⟩
     exact⟨(k+1,(cur)++[Iss.mk kk ((l.map De.cells).length:Nat) x.name]),⟨by show k+1≤drs.length;omega,by rw [← k2];rw [hstep,List.append_assoc] <;> rfl⟩,ent_of [] [(1,3)] [] rfl ⟨rfl,rfl,⟨rfl,rfl⟩,congrArg (fun j:Nat=>AV.sl 3 3 0 j) (snoc_len cur _).symm,rfl,rfl,trivial⟩ (sk) rfl,by show drs.length - (k+1)<drs.length - k;omega⟩
    ·have z:¬ 0<kk:=z
     rw [noteI,if_pos (show kk=0 by omega)] at hstep
     refine⟨_,wrap_i64 (by omega) (by omega),?_⟩
     exact⟨(k+1,cur),⟨by show k+1≤drs.length;omega,by rw [← k2];rw [hstep] <;> rfl⟩,ent_of [] [(1,1)] [] rfl ⟨rfl,rfl,⟨rfl,rfl⟩,rfl,rfl,rfl,trivial⟩ (sk) rfl,by show drs.length - (k+1)<drs.length - k;omega⟩
  ·(first | refine brLt (fun n1=>?_) (fun n1=>?_) | refine brLe (fun n1=>?_) (fun n1=>?_) | refine brEq (fun n1=>?_) (fun n1=>?_))
   ·have n1:(j:Int)<(k:Nat):=n1
    have hj:j<drs.length:=by omega
    have hnx:(x∈drs.take (j+1)) ↔ (x∈drs.take j∨x=drs.getD j rf0):=by rw [take_succ_getD rf0 hj,List.mem_append,List.mem_singleton]
    have hyes:x∈drs.take j:=of_decide_eq_true j2.symm
    refine vdraw_ot otO27 (by kernel_rfl) ?_
    refine⟨_,wrap_i64 (by omega) (by omega),?_⟩
    exact⟨(j+1,true),⟨by show j+1≤k;omega,(decide_eq_true (hnx.2 (.inl hyes))).symm⟩,ent_of [] [] [] rfl (sk) (sk) rfl,by show k - (j+1)<k - j;omega⟩
   ·have n1:¬ (j:Int)<(k:Nat):=n1
    have hjk:j=k:=by omega
    have hyes:x∈drs.take k:=by rw [hjk] at j2;exact of_decide_eq_true j2.symm
    rw [if_pos hyes] at hstep
    clear hjk n1 j1 j2
    refine⟨_,⟨by omega,x.cells,hcell,rfl⟩,?_⟩
    refine⟨by show 0+1≤1;omega,[Iss.cells (Iss.mk 2 ((l.map De.cells).length:Nat) x.name)],rfl,?_⟩
    refine⟨by show 0+(cur.length)≤((cur).map Iss.cells).length;simp,(cur).map Iss.cells,takeAll (by simp),by show((cur.length)+1) * 32≤140737488355328;omega,((cur)++[Iss.mk 2 ((l.map De.cells).length:Nat) x.name]).map Iss.cells,by rw [List.map_append];rfl,?_⟩
    refine vdraw_ot otO30 (by kernel_rfl) ?_
    refine⟨_,⟨by omega,x.cells,hcell,rfl⟩,?_⟩
    refine hRf.eq rfl ?_
    refine brLt (fun z=>?_) (fun z=>?_)
    ·have z:0<kk:=z
     rw [noteI,if_neg (show ¬ kk=0 by omega)] at hstep
     refine⟨_,⟨by omega,x.cells,hcell,rfl⟩,?_⟩
     refine⟨by show 0+1≤1;omega,[Iss.cells (Iss.mk kk ((l.map De.cells).length:Nat) x.name)],rfl,?_⟩
     refine⟨by show 0+(cur.length+1)≤((cur++[Iss.mk 2 ((l.map De.cells).length:Nat) x.name]).map Iss.cells).length;simp,(cur++[Iss.mk 2 ((l.map De.cells).length:Nat) x.name]).map Iss.cells,takeAll (by simp),by show((cur.length+1)+1) * 32≤140737488355328;omega,((cur++[Iss.mk 2 ((l.map De.cells).length:Nat) x.name])++[Iss.mk kk ((l.map De.cells).length:Nat) x.name]).map Iss.cells,by rw [List.map_append];rfl,?_⟩
     refine⟨_,wrap_i64 (by omega) (by omega),?_⟩
     exact⟨(k+1,(cur++[Iss.mk 2 ((l.map De.cells).length:Nat) x.name])++[Iss.mk kk ((l.map De.cells).length:Nat) x.name]),⟨by show k+1≤drs.length;omega,by rw [← k2];rw [hstep,List.append_assoc,List.append_assoc] <;> rfl⟩,ent_of [] [(1,5)] [] rfl ⟨rfl,rfl,⟨rfl,rfl⟩,congrArg (fun j:Nat=>AV.sl 5 3 0 j) ((snoc_len _ _).trans (congrArg (fun z:Nat=>z+1) (snoc_len cur _))).symm,rfl,rfl,trivial⟩ (sk) rfl,by show drs.length - (k+1)<drs.length - k;omega⟩
    ·have z:¬ 0<kk:=z
     rw [noteI,if_pos (show kk=0 by omega)] at hstep
     refine⟨_,wrap_i64 (by omega) (by omega),?_⟩
     exact⟨(k+1,cur++[Iss.mk 2 ((l.map De.cells).length:Nat) x.name]),⟨by show k+1≤drs.length;omega,by rw [← k2];rw [hstep,List.append_assoc] <;> rfl⟩,ent_of [] [(1,3)] [] rfl ⟨rfl,rfl,⟨rfl,rfl⟩,congrArg (fun j:Nat=>AV.sl 3 3 0 j) (snoc_len cur _).symm,rfl,rfl,trivial⟩ (sk) rfl,by show drs.length - (k+1)<drs.length - k;omega⟩
theorem rone_2 (l:List De) (dn:Int) (dnm dpl:List UInt8) (drs:List Rf) (dcs:List Cs) (g:Int) (hd:DcV ⟨2,dn,dnm,dpl,drs,dcs⟩) (hl:l.length≤1000) (hok:∀ d∈l,OkD d):Pure cx 89 [des l,(De.mk 2 dn dnm dpl drs dcs).pv,i64 g] (·=.ret [isl (preI l ⟨2,dn,dnm,dpl,drs,dcs⟩++(refsI l ⟨2,dn,dnm,dpl,drs,dcs⟩ [] drs++casesI l ⟨2,dn,dnm,dpl,drs,dcs⟩ g dcs))]):=by
 have hm:(l.map De.cells).length=l.length:=List.length_map ..
 have hdr:drs.length≤8:=hd.refs
 have hcs:dcs.length≤12:=hd.few
 have hca:∀ c∈dcs,CaV c:=hd.cases
 have hrn:∀ r∈drs,r.name ≠ []:=hd.ok.ok.refs
 have hbare:(2:Int)=1∨(2:Int)=5→dnm=[]:=hd.ok.ok.bare
 have hname:(2:Int)=2∨(2:Int)=3∨(2:Int)=4→dnm ≠ []:=hd.ok.ok.name
 have hplate:¬ (2:Int)=3→dpl=[]:=hd.ok.ok.plate
 have t1:=preI_len l ⟨2,dn,dnm,dpl,drs,dcs⟩
 have t2:=refsI_len l ⟨2,dn,dnm,dpl,drs,dcs⟩ drs []
 have t3:=casesI_len l ⟨2,dn,dnm,dpl,drs,dcs⟩ g dcs hca
 have hnm:=hname (.inl rfl)
 have hpl:=hplate (by decide)
 have hpre:preI l ⟨2,dn,dnm,dpl,drs,dcs⟩=twiceI l ⟨2,dn,dnm,dpl,drs,dcs⟩++sizeI l ⟨2,dn,dnm,dpl,drs,dcs⟩:=rfl
 have hT:=twice_cases l (d:=⟨2,dn,dnm,dpl,drs,dcs⟩) hnm hl hok
 refine pure_of_vc Tryz.func89 rfl rfl rfl ?_
 apply cut
 case h=>
  intro key
  refine And.intro (fun h=>absurd (show(2:Int)=1 from h) (by decide)) (fun _=>?_)
  refine Or.elim hT (fun hT=>?_) (fun hT=>?_)
  ·obtain⟨hT1,hT2⟩:=hT
   refine hT2.eq rfl ?_
   refine And.intro (fun _=>?_) (fun h=>absurd rfl h)
   refine brLt (fun c1=>?_) (fun c1=>?_)
   ·have c1:dn<1:=c1
    have hc:sizeI l ⟨2,dn,dnm,dpl,drs,dcs⟩=[Iss.mk 5 ((l.map De.cells).length:Nat) dnm]:=by rw [sizeI,if_pos (.inl c1),hm]
    refine⟨by show 0+1≤1;omega,[Iss.cells (Iss.mk 5 ((l.map De.cells).length:Nat) dnm)],rfl,?_⟩
    refine⟨by show 1 * 32≤140737488355328;decide,?_⟩
    refine And.intro (fun _=>?_) (fun h=>absurd hpl h)
    refine And.intro (fun h=>absurd (show(2:Int)=3 from h) (by decide)) (fun _=>?_)
    refine And.intro (fun h=>absurd (show(2:Int)=4 from h) (by decide)) (fun _=>?_)
    exact⟨Nat × List Iss,(fun x=>[(0, .p (des l)),(2, .p (i64 g)),(4, .ptr 0 0 0),(7, .sl 1 3 0 x.2.length),(8, .p (i64 (l.map De.cells).length)),(13, .p (i64 x.1))]),(fun x=>⟨2,[(1,isO x.2),(0,dcO ⟨2,dn,dnm,dpl,drs,dcs⟩)]⟩),(fun x=>x.1≤drs.length∧x.2++refsI l ⟨2,dn,dnm,dpl,drs,dcs⟩ (drs.take x.1) (drs.drop x.1)=preI l ⟨2,dn,dnm,dpl,drs,dcs⟩++refsI l ⟨2,dn,dnm,dpl,drs,dcs⟩ [] drs),(fun x=>drs.length - x.1),⟨(0,[Iss.mk 5 ((l.map De.cells).length:Nat) dnm]),⟨Nat.zero_le _,by show [Iss.mk 5 ((l.map De.cells).length:Nat) dnm]++_=_;rw [hpre,hT1,hc];rfl⟩,ent_of [] [(1,3)] [] rfl (sk) (sk) rfl⟩,key.get⟩
   have c1:¬ dn<1:=c1
   refine brLt (fun c2=>?_) (fun c2=>?_)
   ·have c2:6<dn:=c2
    have hc:sizeI l ⟨2,dn,dnm,dpl,drs,dcs⟩=[Iss.mk 5 ((l.map De.cells).length:Nat) dnm]:=by rw [sizeI,if_pos (.inr c2),hm]
    refine⟨by show 0+1≤1;omega,[Iss.cells (Iss.mk 5 ((l.map De.cells).length:Nat) dnm)],rfl,?_⟩
    refine⟨by show 1 * 32≤140737488355328;decide,?_⟩
    refine And.intro (fun _=>?_) (fun h=>absurd hpl h)
    refine And.intro (fun h=>absurd (show(2:Int)=3 from h) (by decide)) (fun _=>?_)
    refine And.intro (fun h=>absurd (show(2:Int)=4 from h) (by decide)) (fun _=>?_)
    exact⟨Nat × List Iss,(fun x=>[(0, .p (des l)),(2, .p (i64 g)),(4, .ptr 0 0 0),(7, .sl 1 3 0 x.2.length),(8, .p (i64 (l.map De.cells).length)),(13, .p (i64 x.1))]),(fun x=>⟨2,[(1,isO x.2),(0,dcO ⟨2,dn,dnm,dpl,drs,dcs⟩)]⟩),(fun x=>x.1≤drs.length∧x.2++refsI l ⟨2,dn,dnm,dpl,drs,dcs⟩ (drs.take x.1) (drs.drop x.1)=preI l ⟨2,dn,dnm,dpl,drs,dcs⟩++refsI l ⟨2,dn,dnm,dpl,drs,dcs⟩ [] drs),(fun x=>drs.length - x.1),⟨(0,[Iss.mk 5 ((l.map De.cells).length:Nat) dnm]),⟨Nat.zero_le _,by show [Iss.mk 5 ((l.map De.cells).length:Nat) dnm]++_=_;rw [hpre,hT1,hc];rfl⟩,ent_of [] [(1,3)] [] rfl (sk) (sk) rfl⟩,key.get⟩
   ·have c2:¬ 6<dn:=c2
    have hc:sizeI l ⟨2,dn,dnm,dpl,drs,dcs⟩=[]:=by rw [sizeI,if_neg (show ¬ (dn<1∨6<dn) by omega)]
    refine And.intro (fun _=>?_) (fun h=>absurd hpl h)
    refine And.intro (fun h=>absurd (show(2:Int)=3 from h) (by decide)) (fun _=>?_)
    refine And.intro (fun h=>absurd (show(2:Int)=4 from h) (by decide)) (fun _=>?_)
    exact⟨Nat × List Iss,(fun x=>[(0, .p (des l)),(2, .p (i64 g)),(4, .ptr 0 0 0),(7, .sl 1 3 0 x.2.length),(8, .p (i64 (l.map De.cells).length)),(13, .p (i64 x.1))]),(fun x=>⟨2,[(1,isO x.2),(0,dcO ⟨2,dn,dnm,dpl,drs,dcs⟩)]⟩),(fun x=>x.1≤drs.length∧x.2++refsI l ⟨2,dn,dnm,dpl,drs,dcs⟩ (drs.take x.1) (drs.drop x.1)=preI l ⟨2,dn,dnm,dpl,drs,dcs⟩++refsI l ⟨2,dn,dnm,dpl,drs,dcs⟩ [] drs),(fun x=>drs.length - x.1),⟨(0,[]),⟨Nat.zero_le _,by show []++_=_;rw [hpre,hT1,hc];rfl⟩,ent_of [] [] [(1,3)] rfl (sk) (sk) rfl⟩,key.get⟩
  ·obtain⟨z1,z2,z3,z4,z5,hT1,hT2⟩:=hT
   refine hT2.eq rfl ?_
   refine And.intro (fun h=>absurd h hnm) (fun _=>?_)
   refine⟨by show 0+1≤1;omega,[Iss.cells (Iss.mk 2 ((l.map De.cells).length:Nat) dnm)],rfl,?_⟩
   refine⟨by show 1 * 32≤140737488355328;decide,?_⟩
   refine And.intro (fun _=>?_) (fun h=>absurd rfl h)
   refine brLt (fun c1=>?_) (fun c1=>?_)
   ·have c1:dn<1:=c1
    have hc:sizeI l ⟨2,dn,dnm,dpl,drs,dcs⟩=[Iss.mk 5 ((l.map De.cells).length:Nat) dnm]:=by rw [sizeI,if_pos (.inl c1),hm]
    refine⟨by show 0+1≤1;omega,[Iss.cells (Iss.mk 5 ((l.map De.cells).length:Nat) dnm)],rfl,?_⟩
    refine⟨by show 0+1≤1;decide,[Iss.cells (Iss.mk 2 ((l.map De.cells).length:Nat) dnm)],rfl,by show(1+1) * 32≤140737488355328;decide,[Iss.cells (Iss.mk 2 ((l.map De.cells).length:Nat) dnm),Iss.cells (Iss.mk 5 ((l.map De.cells).length:Nat) dnm)],rfl,?_⟩
    refine And.intro (fun _=>?_) (fun h=>absurd hpl h)
    refine And.intro (fun h=>absurd (show(2:Int)=3 from h) (by decide)) (fun _=>?_)
    refine And.intro (fun h=>absurd (show(2:Int)=4 from h) (by decide)) (fun _=>?_)
    exact⟨Nat × List Iss,(fun x=>[(0, .p (des l)),(2, .p (i64 g)),(4, .ptr 0 0 0),(7, .sl 1 3 0 x.2.length),(8, .p (i64 (l.map De.cells).length)),(13, .p (i64 x.1))]),(fun x=>⟨2,[(1,isO x.2),(0,dcO ⟨2,dn,dnm,dpl,drs,dcs⟩)]⟩),(fun x=>x.1≤drs.length∧x.2++refsI l ⟨2,dn,dnm,dpl,drs,dcs⟩ (drs.take x.1) (drs.drop x.1)=preI l ⟨2,dn,dnm,dpl,drs,dcs⟩++refsI l ⟨2,dn,dnm,dpl,drs,dcs⟩ [] drs),(fun x=>drs.length - x.1),⟨(0,[Iss.mk 2 ((l.map De.cells).length:Nat) dnm,Iss.mk 5 ((l.map De.cells).length:Nat) dnm]),⟨Nat.zero_le _,by show [Iss.mk 2 ((l.map De.cells).length:Nat) dnm,Iss.mk 5 ((l.map De.cells).length:Nat) dnm]++_=_;rw [hpre,hT1,hc];rfl⟩,ent_of [] [(1,5)] [] rfl (sk) (sk) rfl⟩,key.get⟩
   have c1:¬ dn<1:=c1
   refine brLt (fun c2=>?_) (fun c2=>?_)
   ·have c2:6<dn:=c2
    have hc:sizeI l ⟨2,dn,dnm,dpl,drs,dcs⟩=[Iss.mk 5 ((l.map De.cells).length:Nat) dnm]:=by rw [sizeI,if_pos (.inr c2),hm]
    refine⟨by show 0+1≤1;omega,[Iss.cells (Iss.mk 5 ((l.map De.cells).length:Nat) dnm)],rfl,?_⟩
    refine⟨by show 0+1≤1;decide,[Iss.cells (Iss.mk 2 ((l.map De.cells).length:Nat) dnm)],rfl,by show(1+1) * 32≤140737488355328;decide,[Iss.cells (Iss.mk 2 ((l.map De.cells).length:Nat) dnm),Iss.cells (Iss.mk 5 ((l.map De.cells).length:Nat) dnm)],rfl,?_⟩
    refine And.intro (fun _=>?_) (fun h=>absurd hpl h)
    refine And.intro (fun h=>absurd (show(2:Int)=3 from h) (by decide)) (fun _=>?_)
    refine And.intro (fun h=>absurd (show(2:Int)=4 from h) (by decide)) (fun _=>?_)
    exact⟨Nat × List Iss,(fun x=>[(0, .p (des l)),(2, .p (i64 g)),(4, .ptr 0 0 0),(7, .sl 1 3 0 x.2.length),(8, .p (i64 (l.map De.cells).length)),(13, .p (i64 x.1))]),(fun x=>⟨2,[(1,isO x.2),(0,dcO ⟨2,dn,dnm,dpl,drs,dcs⟩)]⟩),(fun x=>x.1≤drs.length∧x.2++refsI l ⟨2,dn,dnm,dpl,drs,dcs⟩ (drs.take x.1) (drs.drop x.1)=preI l ⟨2,dn,dnm,dpl,drs,dcs⟩++refsI l ⟨2,dn,dnm,dpl,drs,dcs⟩ [] drs),(fun x=>drs.length - x.1),⟨(0,[Iss.mk 2 ((l.map De.cells).length:Nat) dnm,Iss.mk 5 ((l.map De.cells).length:Nat) dnm]),⟨Nat.zero_le _,by show [Iss.mk 2 ((l.map De.cells).length:Nat) dnm,Iss.mk 5 ((l.map De.cells).length:Nat) dnm]++_=_;rw [hpre,hT1,hc];rfl⟩,ent_of [] [(1,5)] [] rfl (sk) (sk) rfl⟩,key.get⟩
   ·have c2:¬ 6<dn:=c2
    have hc:sizeI l ⟨2,dn,dnm,dpl,drs,dcs⟩=[]:=by rw [sizeI,if_neg (show ¬ (dn<1∨6<dn) by omega)]
    refine And.intro (fun _=>?_) (fun h=>absurd hpl h)
    refine And.intro (fun h=>absurd (show(2:Int)=3 from h) (by decide)) (fun _=>?_)
    refine And.intro (fun h=>absurd (show(2:Int)=4 from h) (by decide)) (fun _=>?_)
    exact⟨Nat × List Iss,(fun x=>[(0, .p (des l)),(2, .p (i64 g)),(4, .ptr 0 0 0),(7, .sl 1 3 0 x.2.length),(8, .p (i64 (l.map De.cells).length)),(13, .p (i64 x.1))]),(fun x=>⟨2,[(1,isO x.2),(0,dcO ⟨2,dn,dnm,dpl,drs,dcs⟩)]⟩),(fun x=>x.1≤drs.length∧x.2++refsI l ⟨2,dn,dnm,dpl,drs,dcs⟩ (drs.take x.1) (drs.drop x.1)=preI l ⟨2,dn,dnm,dpl,drs,dcs⟩++refsI l ⟨2,dn,dnm,dpl,drs,dcs⟩ [] drs),(fun x=>drs.length - x.1),⟨(0,[Iss.mk 2 ((l.map De.cells).length:Nat) dnm]),⟨Nat.zero_le _,by show [Iss.mk 2 ((l.map De.cells).length:Nat) dnm]++_=_;rw [hpre,hT1,hc];rfl⟩,ent_of [] [(1,3)] [] rfl (sk) (sk) rfl⟩,key.get⟩
 case k=>
  rintro⟨k,cur⟩ ⟨k1,k2⟩
  simp only [] at k1 k2
  have hcl:cur.length≤400:=by
   have e:=congrArg List.length k2
   rw [List.length_append,List.length_append] at e
   omega
  (first | refine brLt (fun m1=>?_) (fun m1=>?_) | refine brLe (fun m1=>?_) (fun m1=>?_) | refine brEq (fun m1=>?_) (fun m1=>?_))
  rotate_left
  ·have m1:¬ (k:Int)<((drs.map Rf.cells).length:Nat):=m1
   rw [List.length_map] at m1
   rw [List.drop_eq_nil_of_le (by omega),refsI,List.append_nil] at k2
   refine⟨Nat × List Iss,fun x=>[(0, .p (des l)),(2, .p (i64 g)),(4, .ptr 0 0 0),(7, .sl 1 3 0 x.2.length),(8, .p (i64 (l.map De.cells).length)),(17, .p (i64 x.1))],fun x=>⟨2,[(1,isO x.2),(0,dcO ⟨2,dn,dnm,dpl,drs,dcs⟩)]⟩,fun x=>x.1≤dcs.length∧x.2++casesI l ⟨2,dn,dnm,dpl,drs,dcs⟩ g (dcs.drop x.1)=cur++casesI l ⟨2,dn,dnm,dpl,drs,dcs⟩ g dcs,fun x=>dcs.length - x.1,?_,?_⟩
   ·exact⟨(0,cur),⟨Nat.zero_le _,rfl⟩,ent_of [] [] [] rfl (sk) (sk) rfl⟩
   rintro⟨j,cu⟩ ⟨j1,j2⟩
   simp only [] at j1 j2
   have htot:(cur++casesI l ⟨2,dn,dnm,dpl,drs,dcs⟩ g dcs).length≤1000:=by rw [List.length_append];omega
   (first | refine brLt (fun n1=>?_) (fun n1=>?_) | refine brLe (fun n1=>?_) (fun n1=>?_) | refine brEq (fun n1=>?_) (fun n1=>?_))
   rotate_left
   ·have n1:¬ (j:Int)<((dcs.map Cs.cells).length:Nat):=n1
    rw [List.length_map] at n1
    rw [List.drop_eq_nil_of_le (by omega),show casesI l ⟨2,dn,dnm,dpl,drs,dcs⟩ g []=[] from rfl,List.append_nil] at j2
    exact end1 (isl cu) rfl ⟨_,rfl,by show 0+cu.length≤(cu.map Iss.cells).length;simp,takeAll (by simp)⟩ (by rw [j2,k2,List.append_assoc])
   have n1:(j:Int)<((dcs.map Cs.cells).length:Nat):=n1
   rw [List.length_map] at n1
   have hj:j<dcs.length:=by omega
   have hcell:=scell hj
   have hx:=(hca _ (getD_memL cs0 hj)).ok
   rw [dropD cs0 hj,casesI_step,← List.append_assoc,← List.append_assoc] at j2
   rw [← j2,List.length_append,List.length_append] at htot
   generalize dcs.getD j cs0=x at hcell hx j2 htot
   obtain⟨⟨xo,xn,xr,xv,xf,xs,xa⟩,xw⟩:=x
   obtain⟨x1,x2,x3⟩:=hx
   simp only [] at x1 x2 x3 j2 htot
   have hr:=scrrow_c ⟨2,dn,dnm,dpl,drs,dcs⟩ xw g x2 x3
   refine vdraw_ot otO36 (by kernel_rfl) ?_
   refine⟨_,⟨by omega,(⟨.mk xo xn xr xv xf xs xa,xw⟩:Cs).cells,hcell,rfl⟩,?_⟩
   refine(rcond_h l ⟨2,dn,dnm,dpl,drs,dcs⟩ (by show drs.length≤100;omega) hl hok _ (.mk xo xn xr xv xf xs xa) cu (Nat.le_refl _) x1 (by omega)).holds.useT [] [(0,1)] rfl (sk) (sk) fun e0 H0 hq=>?_
   obtain⟨rfl,rfl⟩:=hq
   have hnl:(cu++condI l ⟨2,dn,dnm,dpl,drs,dcs⟩ (.mk xo xn xr xv xf xs xa)).length≤1000:=by omega
   generalize cu++condI l ⟨2,dn,dnm,dpl,drs,dcs⟩ (.mk xo xn xr xv xf xs xa)=nxt at j2 hnl ⊢
   refine⟨rfl,_,⟨3,(2,isO nxt)::[(0,dcO ⟨2,dn,dnm,dpl,drs,dcs⟩)]⟩,rfl,rfl,?_⟩
   refine vdraw_ot otO37 (by kernel_rfl) ?_
   refine⟨_,⟨by omega,(⟨.mk xo xn xr xv xf xs xa,xw⟩:Cs).cells,hcell,rfl⟩,?_⟩
   by_cases hrow:rowI ⟨2,dn,dnm,dpl,drs,dcs⟩ xw g=true
   ·rw [hrow] at hr j2
    rw [if_pos rfl,List.append_nil] at j2
    refine hr.eq rfl ?_
    refine⟨_,wrap_i64 (by omega) (by omega),?_⟩
    exact⟨(j+1,nxt),⟨by show j+1≤dcs.length;omega,j2⟩,ent_of [] [(1,2)] [] rfl (sk) (sk) rfl,by show dcs.length - (j+1)<dcs.length - j;omega⟩
   ·rw [Bool.not_eq_true] at hrow
    rw [hrow] at hr j2
    rw [if_neg (by decide),← hm] at j2
    refine hr.eq rfl ?_
    refine⟨by show 0+1≤1;omega,[Iss.cells (Iss.mk 9 ((l.map De.cells).length:Nat) [])],rfl,?_⟩
    refine⟨by show 0+(nxt.length)≤((nxt).map Iss.cells).length;simp,(nxt).map Iss.cells,takeAll (by simp),by show((nxt.length)+1) * 32≤140737488355328;omega,((nxt)++[Iss.mk 9 ((l.map De.cells).length:Nat) []]).map Iss.cells,by rw [List.map_append];rfl,?_⟩
    refine⟨_,wrap_i64 (by omega) (by omega),?_⟩
    exact⟨(j+1,nxt++[Iss.mk 9 ((l.map De.cells).length:Nat) []]),⟨by show j+1≤dcs.length;omega,j2⟩,ent_of [] [(1,4)] [] rfl ⟨rfl,rfl,⟨rfl,rfl⟩,congrArg (fun j:Nat=>AV.sl 4 3 0 j) (snoc_len _ _).symm,rfl,rfl,trivial⟩ (sk) rfl,by show dcs.length - (j+1)<dcs.length - j;omega⟩
  have m1:(k:Int)<((drs.map Rf.cells).length:Nat):=m1
  rw [List.length_map] at m1
  have hk:k<drs.length:=by omega
  have hcell:=rcell hk
  have hxn:=hrn _ (getD_memL rf0 hk)
  have hstep:refsI l ⟨2,dn,dnm,dpl,drs,dcs⟩ (drs.take k) (drs.drop k)=(if drs.getD k rf0∈drs.take k then [⟨2,((l.map De.cells).length:Nat),(drs.getD k rf0).name⟩] else [])++(noteI (refI l ⟨2,dn,dnm,dpl,drs,dcs⟩ (drs.getD k rf0)) ((l.map De.cells).length:Nat) (drs.getD k rf0).name++refsI l ⟨2,dn,dnm,dpl,drs,dcs⟩ (drs.take (k+1)) (drs.drop (k+1))):=by
   rw [dropD rf0 hk,refsI,hm,take_succ_getD rf0 hk]
  generalize drs.getD k rf0=x at hcell hxn hstep
  have hRf:=scref_c l ⟨2,dn,dnm,dpl,drs,dcs⟩ x hxn hl hok
  have hnn:=refI_nn l ⟨2,dn,dnm,dpl,drs,dcs⟩ x
  generalize refI l ⟨2,dn,dnm,dpl,drs,dcs⟩ x=kk at hRf hnn hstep
  refine⟨Nat × Bool,fun y=>[(0, .p (des l)),(2, .p (i64 g)),(4, .ptr 0 0 0),(7, .sl 1 3 0 cur.length),(8, .p (i64 (l.map De.cells).length)),(13, .p (i64 k)),(14, .p (.bool y.2)),(15, .p (i64 y.1))],fun _=>⟨2,[(1,isO cur),(0,dcO ⟨2,dn,dnm,dpl,drs,dcs⟩)]⟩,fun y=>y.1≤k∧y.2=decide (x∈drs.take y.1),fun y=>k - y.1,?_,?_⟩
  ·exact⟨(0,false),⟨Nat.zero_le _,by simp⟩,ent_of [] [] [] rfl (sk) (sk) rfl⟩
  rintro⟨j,b⟩ ⟨j1,j2⟩
  simp only [] at j1 j2
  cases b
  ·(first | refine brLt (fun n1=>?_) (fun n1=>?_) | refine brLe (fun n1=>?_) (fun n1=>?_) | refine brEq (fun n1=>?_) (fun n1=>?_))
   ·have n1:(j:Int)<(k:Nat):=n1
    have hj:j<drs.length:=by omega
    have hcj:=rcell hj
    have hnx:(x∈drs.take (j+1)) ↔ (x∈drs.take j∨x=drs.getD j rf0):=by rw [take_succ_getD rf0 hj,List.mem_append,List.mem_singleton]
    generalize drs.getD j rf0=y at hcj hnx
    refine vdraw_ot otO27 (by kernel_rfl) ?_
    refine⟨_,⟨by omega,y.cells,hcj,rfl⟩,?_⟩
    refine⟨_,⟨by omega,x.cells,hcell,rfl⟩,?_⟩
    refine⟨⟨by kernel_rfl,by kernel_rfl⟩,fun e1=>?_,fun e1=>?_⟩
    ·have e1:y=x:=rf_ext (by first | exact e1 | (injection e1))
     refine⟨_,wrap_i64 (by omega) (by omega),?_⟩
     exact⟨(j+1,true),⟨by show j+1≤k;omega,(decide_eq_true (hnx.2 (.inr e1.symm))).symm⟩,ent_of [] [] [] rfl (sk) (sk) rfl,by show k - (j+1)<k - j;omega⟩
    ·have e1:¬ y=x:=fun e=>e1 (by rw [e])
     have hno:¬ x∈drs.take j:=of_decide_eq_false j2.symm
     refine⟨_,wrap_i64 (by omega) (by omega),?_⟩
     exact⟨(j+1,false),⟨by show j+1≤k;omega,(decide_eq_false (fun h=>(hnx.1 h).elim hno fun e=>e1 e.symm)).symm⟩,ent_of [] [] [] rfl (sk) (sk) rfl,by show k - (j+1)<k - j;omega⟩
   ·have n1:¬ (j:Int)<(k:Nat):=n1
    have hjk:j=k:=by omega
    have hno:¬ x∈drs.take k:=by rw [hjk] at j2;exact of_decide_eq_false j2.symm
    rw [if_neg hno] at hstep
    clear hjk n1 j1 j2
    refine vdraw_ot otO30 (by kernel_rfl) ?_
    refine⟨_,⟨by omega,x.cells,hcell,rfl⟩,?_⟩
    refine hRf.eq rfl ?_
    refine brLt (fun z=>?_) (fun z=>?_)
    ·have z:0<kk:=z
     rw [noteI,if_neg (show ¬ kk=0 by omega)] at hstep
     refine⟨_,⟨by omega,x.cells,hcell,rfl⟩,?_⟩
     refine⟨by show 0+1≤1;omega,[Iss.cells (Iss.mk kk ((l.map De.cells).length:Nat) x.name)],rfl,?_⟩
     refine⟨by show 0+(cur.length)≤((cur).map Iss.cells).length;simp,(cur).map Iss.cells,takeAll (by simp),by show((cur.length)+1) * 32≤140737488355328;omega,((cur)++[Iss.mk kk ((l.map De.cells).length:Nat) x.name]).map Iss.cells,by rw [List.map_append];rfl,?_⟩
     refine⟨_,wrap_i64 (by omega) (by omega),?_⟩
     exact⟨(k+1,(cur)++[Iss.mk kk ((l.map De.cells).length:Nat) x.name]),⟨by show k+1≤drs.length;omega,by rw [← k2];rw [hstep,List.append_assoc] <;> rfl⟩,ent_of [] [(1,3)] [] rfl ⟨rfl,rfl,⟨rfl,rfl⟩,congrArg (fun j:Nat=>AV.sl 3 3 0 j) (snoc_len cur _).symm,rfl,rfl,trivial⟩ (sk) rfl,by show drs.length - (k+1)<drs.length - k;omega⟩
    ·have z:¬ 0<kk:=z
     rw [noteI,if_pos (show kk=0 by omega)] at hstep
     refine⟨_,wrap_i64 (by omega) (by omega),?_⟩
     exact⟨(k+1,cur),⟨by show k+1≤drs.length;omega,by rw [← k2];rw [hstep] <;> rfl⟩,ent_of [] [(1,1)] [] rfl ⟨rfl,rfl,⟨rfl,rfl⟩,rfl,rfl,rfl,trivial⟩ (sk) rfl,by show drs.length - (k+1)<drs.length - k;omega⟩
  ·(first | refine brLt (fun n1=>?_) (fun n1=>?_) | refine brLe (fun n1=>?_) (fun n1=>?_) | refine brEq (fun n1=>?_) (fun n1=>?_))
   ·have n1:(j:Int)<(k:Nat):=n1
    have hj:j<drs.length:=by omega
    have hnx:(x∈drs.take (j+1)) ↔ (x∈drs.take j∨x=drs.getD j rf0):=by rw [take_succ_getD rf0 hj,List.mem_append,List.mem_singleton]
    have hyes:x∈drs.take j:=of_decide_eq_true j2.symm
    refine vdraw_ot otO27 (by kernel_rfl) ?_
    refine⟨_,wrap_i64 (by omega) (by omega),?_⟩
    exact⟨(j+1,true),⟨by show j+1≤k;omega,(decide_eq_true (hnx.2 (.inl hyes))).symm⟩,ent_of [] [] [] rfl (sk) (sk) rfl,by show k - (j+1)<k - j;omega⟩
   ·have n1:¬ (j:Int)<(k:Nat):=n1
    have hjk:j=k:=by omega
    have hyes:x∈drs.take k:=by rw [hjk] at j2;exact of_decide_eq_true j2.symm
    rw [if_pos hyes] at hstep
    clear hjk n1 j1 j2
    refine⟨_,⟨by omega,x.cells,hcell,rfl⟩,?_⟩
    refine⟨by show 0+1≤1;omega,[Iss.cells (Iss.mk 2 ((l.map De.cells).length:Nat) x.name)],rfl,?_⟩
    refine⟨by show 0+(cur.length)≤((cur).map Iss.cells).length;simp,(cur).map Iss.cells,takeAll (by simp),by show((cur.length)+1) * 32≤140737488355328;omega,((cur)++[Iss.mk 2 ((l.map De.cells).length:Nat) x.name]).map Iss.cells,by rw [List.map_append];rfl,?_⟩
    refine vdraw_ot otO30 (by kernel_rfl) ?_
    refine⟨_,⟨by omega,x.cells,hcell,rfl⟩,?_⟩
    refine hRf.eq rfl ?_
    refine brLt (fun z=>?_) (fun z=>?_)
    ·have z:0<kk:=z
     rw [noteI,if_neg (show ¬ kk=0 by omega)] at hstep
     refine⟨_,⟨by omega,x.cells,hcell,rfl⟩,?_⟩
     refine⟨by show 0+1≤1;omega,[Iss.cells (Iss.mk kk ((l.map De.cells).length:Nat) x.name)],rfl,?_⟩
     refine⟨by show 0+(cur.length+1)≤((cur++[Iss.mk 2 ((l.map De.cells).length:Nat) x.name]).map Iss.cells).length;simp,(cur++[Iss.mk 2 ((l.map De.cells).length:Nat) x.name]).map Iss.cells,takeAll (by simp),by show((cur.length+1)+1) * 32≤140737488355328;omega,((cur++[Iss.mk 2 ((l.map De.cells).length:Nat) x.name])++[Iss.mk kk ((l.map De.cells).length:Nat) x.name]).map Iss.cells,by rw [List.map_append];rfl,?_⟩
     refine⟨_,wrap_i64 (by omega) (by omega),?_⟩
     exact⟨(k+1,(cur++[Iss.mk 2 ((l.map De.cells).length:Nat) x.name])++[Iss.mk kk ((l.map De.cells).length:Nat) x.name]),⟨by show k+1≤drs.length;omega,by rw [← k2];rw [hstep,List.append_assoc,List.append_assoc] <;> rfl⟩,ent_of [] [(1,5)] [] rfl ⟨rfl,rfl,⟨rfl,rfl⟩,congrArg (fun j:Nat=>AV.sl 5 3 0 j) ((snoc_len _ _).trans (congrArg (fun z:Nat=>z+1) (snoc_len cur _))).symm,rfl,rfl,trivial⟩ (sk) rfl,by show drs.length - (k+1)<drs.length - k;omega⟩
    ·have z:¬ 0<kk:=z
     rw [noteI,if_pos (show kk=0 by omega)] at hstep
     refine⟨_,wrap_i64 (by omega) (by omega),?_⟩
     exact⟨(k+1,cur++[Iss.mk 2 ((l.map De.cells).length:Nat) x.name]),⟨by show k+1≤drs.length;omega,by rw [← k2];rw [hstep,List.append_assoc] <;> rfl⟩,ent_of [] [(1,3)] [] rfl ⟨rfl,rfl,⟨rfl,rfl⟩,congrArg (fun j:Nat=>AV.sl 3 3 0 j) (snoc_len cur _).symm,rfl,rfl,trivial⟩ (sk) rfl,by show drs.length - (k+1)<drs.length - k;omega⟩
theorem rone_3 (l:List De) (dn:Int) (dnm dpl:List UInt8) (drs:List Rf) (dcs:List Cs) (g:Int) (hd:DcV ⟨3,dn,dnm,dpl,drs,dcs⟩) (hl:l.length≤1000) (hok:∀ d∈l,OkD d):Pure cx 89 [des l,(De.mk 3 dn dnm dpl drs dcs).pv,i64 g] (·=.ret [isl (preI l ⟨3,dn,dnm,dpl,drs,dcs⟩++(refsI l ⟨3,dn,dnm,dpl,drs,dcs⟩ [] drs++casesI l ⟨3,dn,dnm,dpl,drs,dcs⟩ g dcs))]):=by
 have hm:(l.map De.cells).length=l.length:=List.length_map ..
 have hdr:drs.length≤8:=hd.refs
 have hcs:dcs.length≤12:=hd.few
 have hca:∀ c∈dcs,CaV c:=hd.cases
 have hrn:∀ r∈drs,r.name ≠ []:=hd.ok.ok.refs
 have hbare:(3:Int)=1∨(3:Int)=5→dnm=[]:=hd.ok.ok.bare
 have hname:(3:Int)=2∨(3:Int)=3∨(3:Int)=4→dnm ≠ []:=hd.ok.ok.name
 have hplate:¬ (3:Int)=3→dpl=[]:=hd.ok.ok.plate
 have t1:=preI_len l ⟨3,dn,dnm,dpl,drs,dcs⟩
 have t2:=refsI_len l ⟨3,dn,dnm,dpl,drs,dcs⟩ drs []
 have t3:=casesI_len l ⟨3,dn,dnm,dpl,drs,dcs⟩ g dcs hca
 have hnm:=hname (.inr (.inl rfl))
 have hpre:preI l ⟨3,dn,dnm,dpl,drs,dcs⟩=twiceI l ⟨3,dn,dnm,dpl,drs,dcs⟩++(plateI l ⟨3,dn,dnm,dpl,drs,dcs⟩++cardI l ⟨3,dn,dnm,dpl,drs,dcs⟩):=rfl
 have hT:=twice_cases l (d:=⟨3,dn,dnm,dpl,drs,dcs⟩) hnm hl hok
 have hP:=plate_cases l ⟨3,dn,dnm,dpl,drs,dcs⟩ hl hok
 refine pure_of_vc Tryz.func89 rfl rfl rfl ?_
 apply cut
 case h=>
  intro key
  refine And.intro (fun h=>absurd (show(3:Int)=1 from h) (by decide)) (fun _=>?_)
  refine Or.elim hT (fun hT=>?_) (fun hT=>?_)
  ·obtain⟨hT1,hT2⟩:=hT
   refine hT2.eq rfl ?_
   refine And.intro (fun h=>absurd (show(3:Int)=2 from h) (by decide)) (fun _=>?_)
   refine Or.elim hP (fun hp=>?_) (fun hp=>?_)
   ·obtain⟨hp1,hp2⟩:=hp
    refine And.intro (fun _=>?_) (fun h=>absurd hp1 h)
    refine And.intro (fun _=>?_) (fun h=>absurd rfl h)
    refine brLt (fun c1=>?_) (fun c1=>?_)
    ·have c1:dn<2:=c1
     have hc:cardI l ⟨3,dn,dnm,dpl,drs,dcs⟩=[Iss.mk 6 ((l.map De.cells).length:Nat) dnm]:=by rw [cardI,if_pos (.inl c1),hm]
     refine⟨by show 0+1≤1;omega,[Iss.cells (Iss.mk 6 ((l.map De.cells).length:Nat) dnm)],rfl,?_⟩
     refine⟨by show 1 * 32≤140737488355328;decide,?_⟩
     exact⟨Nat × List Iss,(fun x=>[(0, .p (des l)),(2, .p (i64 g)),(4, .ptr 0 0 0),(7, .sl 1 3 0 x.2.length),(8, .p (i64 (l.map De.cells).length)),(13, .p (i64 x.1))]),(fun x=>⟨2,[(1,isO x.2),(0,dcO ⟨3,dn,dnm,dpl,drs,dcs⟩)]⟩),(fun x=>x.1≤drs.length∧x.2++refsI l ⟨3,dn,dnm,dpl,drs,dcs⟩ (drs.take x.1) (drs.drop x.1)=preI l ⟨3,dn,dnm,dpl,drs,dcs⟩++refsI l ⟨3,dn,dnm,dpl,drs,dcs⟩ [] drs),(fun x=>drs.length - x.1),⟨(0,[Iss.mk 6 ((l.map De.cells).length:Nat) dnm]),⟨Nat.zero_le _,by show [Iss.mk 6 ((l.map De.cells).length:Nat) dnm]++_=_;rw [hpre,hT1,hp2,hc];rfl⟩,ent_of [] [(1,3)] [] rfl (sk) (sk) rfl⟩,key.get⟩
    have c1:¬ dn<2:=c1
    refine brLt (fun c2=>?_) (fun c2=>?_)
    ·have c2:4<dn:=c2
     have hc:cardI l ⟨3,dn,dnm,dpl,drs,dcs⟩=[Iss.mk 6 ((l.map De.cells).length:Nat) dnm]:=by rw [cardI,if_pos (.inr c2),hm]
     refine⟨by show 0+1≤1;omega,[Iss.cells (Iss.mk 6 ((l.map De.cells).length:Nat) dnm)],rfl,?_⟩
     refine⟨by show 1 * 32≤140737488355328;decide,?_⟩
     exact⟨Nat × List Iss,(fun x=>[(0, .p (des l)),(2, .p (i64 g)),(4, .ptr 0 0 0),(7, .sl 1 3 0 x.2.length),(8, .p (i64 (l.map De.cells).length)),(13, .p (i64 x.1))]),(fun x=>⟨2,[(1,isO x.2),(0,dcO ⟨3,dn,dnm,dpl,drs,dcs⟩)]⟩),(fun x=>x.1≤drs.length∧x.2++refsI l ⟨3,dn,dnm,dpl,drs,dcs⟩ (drs.take x.1) (drs.drop x.1)=preI l ⟨3,dn,dnm,dpl,drs,dcs⟩++refsI l ⟨3,dn,dnm,dpl,drs,dcs⟩ [] drs),(fun x=>drs.length - x.1),⟨(0,[Iss.mk 6 ((l.map De.cells).length:Nat) dnm]),⟨Nat.zero_le _,by show [Iss.mk 6 ((l.map De.cells).length:Nat) dnm]++_=_;rw [hpre,hT1,hp2,hc];rfl⟩,ent_of [] [(1,3)] [] rfl (sk) (sk) rfl⟩,key.get⟩
    ·have c2:¬ 4<dn:=c2
     have hc:cardI l ⟨3,dn,dnm,dpl,drs,dcs⟩=[]:=by rw [cardI,if_neg (show ¬ (dn<2∨4<dn) by omega)]
     exact⟨Nat × List Iss,(fun x=>[(0, .p (des l)),(2, .p (i64 g)),(4, .ptr 0 0 0),(7, .sl 1 3 0 x.2.length),(8, .p (i64 (l.map De.cells).length)),(13, .p (i64 x.1))]),(fun x=>⟨2,[(1,isO x.2),(0,dcO ⟨3,dn,dnm,dpl,drs,dcs⟩)]⟩),(fun x=>x.1≤drs.length∧x.2++refsI l ⟨3,dn,dnm,dpl,drs,dcs⟩ (drs.take x.1) (drs.drop x.1)=preI l ⟨3,dn,dnm,dpl,drs,dcs⟩++refsI l ⟨3,dn,dnm,dpl,drs,dcs⟩ [] drs),(fun x=>drs.length - x.1),⟨(0,[]),⟨Nat.zero_le _,by show []++_=_;rw [hpre,hT1,hp2,hc];rfl⟩,ent_of [] [] [(1,3)] rfl (sk) (sk) rfl⟩,key.get⟩
   obtain⟨hp1,hp⟩:=hp
   refine And.intro (fun h=>absurd h hp1) (fun _=>?_)
   refine Or.elim hp (fun hp=>?_) (fun hp=>?_)
   ·obtain⟨hp2,hp3⟩:=hp
    refine hp3.eq rfl ?_
    refine⟨by show 0+1≤1;omega,[Iss.cells (Iss.mk 3 ((l.map De.cells).length:Nat) dpl)],rfl,?_⟩
    refine⟨by show 1 * 32≤140737488355328;decide,?_⟩
    refine And.intro (fun _=>?_) (fun h=>absurd rfl h)
    refine brLt (fun c1=>?_) (fun c1=>?_)
    ·have c1:dn<2:=c1
     have hc:cardI l ⟨3,dn,dnm,dpl,drs,dcs⟩=[Iss.mk 6 ((l.map De.cells).length:Nat) dnm]:=by rw [cardI,if_pos (.inl c1),hm]
     refine⟨by show 0+1≤1;omega,[Iss.cells (Iss.mk 6 ((l.map De.cells).length:Nat) dnm)],rfl,?_⟩
     refine⟨by show 0+1≤1;decide,[Iss.cells (Iss.mk 3 ((l.map De.cells).length:Nat) dpl)],rfl,by show(1+1) * 32≤140737488355328;decide,[Iss.cells (Iss.mk 3 ((l.map De.cells).length:Nat) dpl),Iss.cells (Iss.mk 6 ((l.map De.cells).length:Nat) dnm)],rfl,?_⟩
     exact⟨Nat × List Iss,(fun x=>[(0, .p (des l)),(2, .p (i64 g)),(4, .ptr 0 0 0),(7, .sl 1 3 0 x.2.length),(8, .p (i64 (l.map De.cells).length)),(13, .p (i64 x.1))]),(fun x=>⟨2,[(1,isO x.2),(0,dcO ⟨3,dn,dnm,dpl,drs,dcs⟩)]⟩),(fun x=>x.1≤drs.length∧x.2++refsI l ⟨3,dn,dnm,dpl,drs,dcs⟩ (drs.take x.1) (drs.drop x.1)=preI l ⟨3,dn,dnm,dpl,drs,dcs⟩++refsI l ⟨3,dn,dnm,dpl,drs,dcs⟩ [] drs),(fun x=>drs.length - x.1),⟨(0,[Iss.mk 3 ((l.map De.cells).length:Nat) dpl,Iss.mk 6 ((l.map De.cells).length:Nat) dnm]),⟨Nat.zero_le _,by show [Iss.mk 3 ((l.map De.cells).length:Nat) dpl,Iss.mk 6 ((l.map De.cells).length:Nat) dnm]++_=_;rw [hpre,hT1,hp2,hc];rfl⟩,ent_of [] [(1,6)] [] rfl (sk) (sk) rfl⟩,key.get⟩
    have c1:¬ dn<2:=c1
    refine brLt (fun c2=>?_) (fun c2=>?_)
    ·have c2:4<dn:=c2
     have hc:cardI l ⟨3,dn,dnm,dpl,drs,dcs⟩=[Iss.mk 6 ((l.map De.cells).length:Nat) dnm]:=by rw [cardI,if_pos (.inr c2),hm]
     refine⟨by show 0+1≤1;omega,[Iss.cells (Iss.mk 6 ((l.map De.cells).length:Nat) dnm)],rfl,?_⟩
     refine⟨by show 0+1≤1;decide,[Iss.cells (Iss.mk 3 ((l.map De.cells).length:Nat) dpl)],rfl,by show(1+1) * 32≤140737488355328;decide,[Iss.cells (Iss.mk 3 ((l.map De.cells).length:Nat) dpl),Iss.cells (Iss.mk 6 ((l.map De.cells).length:Nat) dnm)],rfl,?_⟩
     exact⟨Nat × List Iss,(fun x=>[(0, .p (des l)),(2, .p (i64 g)),(4, .ptr 0 0 0),(7, .sl 1 3 0 x.2.length),(8, .p (i64 (l.map De.cells).length)),(13, .p (i64 x.1))]),(fun x=>⟨2,[(1,isO x.2),(0,dcO ⟨3,dn,dnm,dpl,drs,dcs⟩)]⟩),(fun x=>x.1≤drs.length∧x.2++refsI l ⟨3,dn,dnm,dpl,drs,dcs⟩ (drs.take x.1) (drs.drop x.1)=preI l ⟨3,dn,dnm,dpl,drs,dcs⟩++refsI l ⟨3,dn,dnm,dpl,drs,dcs⟩ [] drs),(fun x=>drs.length - x.1),⟨(0,[Iss.mk 3 ((l.map De.cells).length:Nat) dpl,Iss.mk 6 ((l.map De.cells).length:Nat) dnm]),⟨Nat.zero_le _,by show [Iss.mk 3 ((l.map De.cells).length:Nat) dpl,Iss.mk 6 ((l.map De.cells).length:Nat) dnm]++_=_;rw [hpre,hT1,hp2,hc];rfl⟩,ent_of [] [(1,6)] [] rfl (sk) (sk) rfl⟩,key.get⟩
    ·have c2:¬ 4<dn:=c2
     have hc:cardI l ⟨3,dn,dnm,dpl,drs,dcs⟩=[]:=by rw [cardI,if_neg (show ¬ (dn<2∨4<dn) by omega)]
     exact⟨Nat × List Iss,(fun x=>[(0, .p (des l)),(2, .p (i64 g)),(4, .ptr 0 0 0),(7, .sl 1 3 0 x.2.length),(8, .p (i64 (l.map De.cells).length)),(13, .p (i64 x.1))]),(fun x=>⟨2,[(1,isO x.2),(0,dcO ⟨3,dn,dnm,dpl,drs,dcs⟩)]⟩),(fun x=>x.1≤drs.length∧x.2++refsI l ⟨3,dn,dnm,dpl,drs,dcs⟩ (drs.take x.1) (drs.drop x.1)=preI l ⟨3,dn,dnm,dpl,drs,dcs⟩++refsI l ⟨3,dn,dnm,dpl,drs,dcs⟩ [] drs),(fun x=>drs.length - x.1),⟨(0,[Iss.mk 3 ((l.map De.cells).length:Nat) dpl]),⟨Nat.zero_le _,by show [Iss.mk 3 ((l.map De.cells).length:Nat) dpl]++_=_;rw [hpre,hT1,hp2,hc];rfl⟩,ent_of [] [(1,4)] [] rfl (sk) (sk) rfl⟩,key.get⟩
   obtain⟨y1,y2,y3,y4,y5,hp⟩:=hp
   refine Or.elim hp (fun hp=>?_) (fun hp=>?_)
   ·obtain⟨hp2,hp3,hp4⟩:=hp
    refine hp3.eq rfl ?_
    refine And.intro (fun _=>?_) (fun h=>absurd hp4 h)
    refine And.intro (fun _=>?_) (fun h=>absurd rfl h)
    refine brLt (fun c1=>?_) (fun c1=>?_)
    ·have c1:dn<2:=c1
     have hc:cardI l ⟨3,dn,dnm,dpl,drs,dcs⟩=[Iss.mk 6 ((l.map De.cells).length:Nat) dnm]:=by rw [cardI,if_pos (.inl c1),hm]
     refine⟨by show 0+1≤1;omega,[Iss.cells (Iss.mk 6 ((l.map De.cells).length:Nat) dnm)],rfl,?_⟩
     refine⟨by show 1 * 32≤140737488355328;decide,?_⟩
     exact⟨Nat × List Iss,(fun x=>[(0, .p (des l)),(2, .p (i64 g)),(4, .ptr 0 0 0),(7, .sl 1 3 0 x.2.length),(8, .p (i64 (l.map De.cells).length)),(13, .p (i64 x.1))]),(fun x=>⟨2,[(1,isO x.2),(0,dcO ⟨3,dn,dnm,dpl,drs,dcs⟩)]⟩),(fun x=>x.1≤drs.length∧x.2++refsI l ⟨3,dn,dnm,dpl,drs,dcs⟩ (drs.take x.1) (drs.drop x.1)=preI l ⟨3,dn,dnm,dpl,drs,dcs⟩++refsI l ⟨3,dn,dnm,dpl,drs,dcs⟩ [] drs),(fun x=>drs.length - x.1),⟨(0,[Iss.mk 6 ((l.map De.cells).length:Nat) dnm]),⟨Nat.zero_le _,by show [Iss.mk 6 ((l.map De.cells).length:Nat) dnm]++_=_;rw [hpre,hT1,hp2,hc];rfl⟩,ent_of [] [(1,4)] [] rfl (sk) (sk) rfl⟩,key.get⟩
    have c1:¬ dn<2:=c1
    refine brLt (fun c2=>?_) (fun c2=>?_)
    ·have c2:4<dn:=c2
     have hc:cardI l ⟨3,dn,dnm,dpl,drs,dcs⟩=[Iss.mk 6 ((l.map De.cells).length:Nat) dnm]:=by rw [cardI,if_pos (.inr c2),hm]
     refine⟨by show 0+1≤1;omega,[Iss.cells (Iss.mk 6 ((l.map De.cells).length:Nat) dnm)],rfl,?_⟩
     refine⟨by show 1 * 32≤140737488355328;decide,?_⟩
     exact⟨Nat × List Iss,(fun x=>[(0, .p (des l)),(2, .p (i64 g)),(4, .ptr 0 0 0),(7, .sl 1 3 0 x.2.length),(8, .p (i64 (l.map De.cells).length)),(13, .p (i64 x.1))]),(fun x=>⟨2,[(1,isO x.2),(0,dcO ⟨3,dn,dnm,dpl,drs,dcs⟩)]⟩),(fun x=>x.1≤drs.length∧x.2++refsI l ⟨3,dn,dnm,dpl,drs,dcs⟩ (drs.take x.1) (drs.drop x.1)=preI l ⟨3,dn,dnm,dpl,drs,dcs⟩++refsI l ⟨3,dn,dnm,dpl,drs,dcs⟩ [] drs),(fun x=>drs.length - x.1),⟨(0,[Iss.mk 6 ((l.map De.cells).length:Nat) dnm]),⟨Nat.zero_le _,by show [Iss.mk 6 ((l.map De.cells).length:Nat) dnm]++_=_;rw [hpre,hT1,hp2,hc];rfl⟩,ent_of [] [(1,4)] [] rfl (sk) (sk) rfl⟩,key.get⟩
    ·have c2:¬ 4<dn:=c2
     have hc:cardI l ⟨3,dn,dnm,dpl,drs,dcs⟩=[]:=by rw [cardI,if_neg (show ¬ (dn<2∨4<dn) by omega)]
     exact⟨Nat × List Iss,(fun x=>[(0, .p (des l)),(2, .p (i64 g)),(4, .ptr 0 0 0),(7, .sl 1 3 0 x.2.length),(8, .p (i64 (l.map De.cells).length)),(13, .p (i64 x.1))]),(fun x=>⟨2,[(1,isO x.2),(0,dcO ⟨3,dn,dnm,dpl,drs,dcs⟩)]⟩),(fun x=>x.1≤drs.length∧x.2++refsI l ⟨3,dn,dnm,dpl,drs,dcs⟩ (drs.take x.1) (drs.drop x.1)=preI l ⟨3,dn,dnm,dpl,drs,dcs⟩++refsI l ⟨3,dn,dnm,dpl,drs,dcs⟩ [] drs),(fun x=>drs.length - x.1),⟨(0,[]),⟨Nat.zero_le _,by show []++_=_;rw [hpre,hT1,hp2,hc];rfl⟩,ent_of [] [] [(1,3)] rfl (sk) (sk) rfl⟩,key.get⟩
   ·obtain⟨hp2,hp3,hp4⟩:=hp
    refine hp3.eq rfl ?_
    refine And.intro (fun h=>absurd h hp4) (fun _=>?_)
    refine⟨by show 0+1≤1;omega,[Iss.cells (Iss.mk 4 ((l.map De.cells).length:Nat) dpl)],rfl,?_⟩
    refine⟨by show 1 * 32≤140737488355328;decide,?_⟩
    refine And.intro (fun _=>?_) (fun h=>absurd rfl h)
    refine brLt (fun c1=>?_) (fun c1=>?_)
    ·have c1:dn<2:=c1
     have hc:cardI l ⟨3,dn,dnm,dpl,drs,dcs⟩=[Iss.mk 6 ((l.map De.cells).length:Nat) dnm]:=by rw [cardI,if_pos (.inl c1),hm]
     refine⟨by show 0+1≤1;omega,[Iss.cells (Iss.mk 6 ((l.map De.cells).length:Nat) dnm)],rfl,?_⟩
     refine⟨by show 0+1≤1;decide,[Iss.cells (Iss.mk 4 ((l.map De.cells).length:Nat) dpl)],rfl,by show(1+1) * 32≤140737488355328;decide,[Iss.cells (Iss.mk 4 ((l.map De.cells).length:Nat) dpl),Iss.cells (Iss.mk 6 ((l.map De.cells).length:Nat) dnm)],rfl,?_⟩
     exact⟨Nat × List Iss,(fun x=>[(0, .p (des l)),(2, .p (i64 g)),(4, .ptr 0 0 0),(7, .sl 1 3 0 x.2.length),(8, .p (i64 (l.map De.cells).length)),(13, .p (i64 x.1))]),(fun x=>⟨2,[(1,isO x.2),(0,dcO ⟨3,dn,dnm,dpl,drs,dcs⟩)]⟩),(fun x=>x.1≤drs.length∧x.2++refsI l ⟨3,dn,dnm,dpl,drs,dcs⟩ (drs.take x.1) (drs.drop x.1)=preI l ⟨3,dn,dnm,dpl,drs,dcs⟩++refsI l ⟨3,dn,dnm,dpl,drs,dcs⟩ [] drs),(fun x=>drs.length - x.1),⟨(0,[Iss.mk 4 ((l.map De.cells).length:Nat) dpl,Iss.mk 6 ((l.map De.cells).length:Nat) dnm]),⟨Nat.zero_le _,by show [Iss.mk 4 ((l.map De.cells).length:Nat) dpl,Iss.mk 6 ((l.map De.cells).length:Nat) dnm]++_=_;rw [hpre,hT1,hp2,hc];rfl⟩,ent_of [] [(1,6)] [] rfl (sk) (sk) rfl⟩,key.get⟩
    have c1:¬ dn<2:=c1
    refine brLt (fun c2=>?_) (fun c2=>?_)
    ·have c2:4<dn:=c2
     have hc:cardI l ⟨3,dn,dnm,dpl,drs,dcs⟩=[Iss.mk 6 ((l.map De.cells).length:Nat) dnm]:=by rw [cardI,if_pos (.inr c2),hm]
     refine⟨by show 0+1≤1;omega,[Iss.cells (Iss.mk 6 ((l.map De.cells).length:Nat) dnm)],rfl,?_⟩
     refine⟨by show 0+1≤1;decide,[Iss.cells (Iss.mk 4 ((l.map De.cells).length:Nat) dpl)],rfl,by show(1+1) * 32≤140737488355328;decide,[Iss.cells (Iss.mk 4 ((l.map De.cells).length:Nat) dpl),Iss.cells (Iss.mk 6 ((l.map De.cells).length:Nat) dnm)],rfl,?_⟩
     exact⟨Nat × List Iss,(fun x=>[(0, .p (des l)),(2, .p (i64 g)),(4, .ptr 0 0 0),(7, .sl 1 3 0 x.2.length),(8, .p (i64 (l.map De.cells).length)),(13, .p (i64 x.1))]),(fun x=>⟨2,[(1,isO x.2),(0,dcO ⟨3,dn,dnm,dpl,drs,dcs⟩)]⟩),(fun x=>x.1≤drs.length∧x.2++refsI l ⟨3,dn,dnm,dpl,drs,dcs⟩ (drs.take x.1) (drs.drop x.1)=preI l ⟨3,dn,dnm,dpl,drs,dcs⟩++refsI l ⟨3,dn,dnm,dpl,drs,dcs⟩ [] drs),(fun x=>drs.length - x.1),⟨(0,[Iss.mk 4 ((l.map De.cells).length:Nat) dpl,Iss.mk 6 ((l.map De.cells).length:Nat) dnm]),⟨Nat.zero_le _,by show [Iss.mk 4 ((l.map De.cells).length:Nat) dpl,Iss.mk 6 ((l.map De.cells).length:Nat) dnm]++_=_;rw [hpre,hT1,hp2,hc];rfl⟩,ent_of [] [(1,6)] [] rfl (sk) (sk) rfl⟩,key.get⟩
    ·have c2:¬ 4<dn:=c2
     have hc:cardI l ⟨3,dn,dnm,dpl,drs,dcs⟩=[]:=by rw [cardI,if_neg (show ¬ (dn<2∨4<dn) by omega)]
     exact⟨Nat × List Iss,(fun x=>[(0, .p (des l)),(2, .p (i64 g)),(4, .ptr 0 0 0),(7, .sl 1 3 0 x.2.length),(8, .p (i64 (l.map De.cells).length)),(13, .p (i64 x.1))]),(fun x=>⟨2,[(1,isO x.2),(0,dcO ⟨3,dn,dnm,dpl,drs,dcs⟩)]⟩),(fun x=>x.1≤drs.length∧x.2++refsI l ⟨3,dn,dnm,dpl,drs,dcs⟩ (drs.take x.1) (drs.drop x.1)=preI l ⟨3,dn,dnm,dpl,drs,dcs⟩++refsI l ⟨3,dn,dnm,dpl,drs,dcs⟩ [] drs),(fun x=>drs.length - x.1),⟨(0,[Iss.mk 4 ((l.map De.cells).length:Nat) dpl]),⟨Nat.zero_le _,by show [Iss.mk 4 ((l.map De.cells).length:Nat) dpl]++_=_;rw [hpre,hT1,hp2,hc];rfl⟩,ent_of [] [(1,4)] [] rfl (sk) (sk) rfl⟩,key.get⟩
  ·obtain⟨z1,z2,z3,z4,z5,hT1,hT2⟩:=hT
   refine hT2.eq rfl ?_
   refine And.intro (fun h=>absurd h hnm) (fun _=>?_)
   refine⟨by show 0+1≤1;omega,[Iss.cells (Iss.mk 2 ((l.map De.cells).length:Nat) dnm)],rfl,?_⟩
   refine⟨by show 1 * 32≤140737488355328;decide,?_⟩
   refine And.intro (fun h=>absurd (show(3:Int)=2 from h) (by decide)) (fun _=>?_)
   refine Or.elim hP (fun hp=>?_) (fun hp=>?_)
   ·obtain⟨hp1,hp2⟩:=hp
    refine And.intro (fun _=>?_) (fun h=>absurd hp1 h)
    refine And.intro (fun _=>?_) (fun h=>absurd rfl h)
    refine brLt (fun c1=>?_) (fun c1=>?_)
    ·have c1:dn<2:=c1
     have hc:cardI l ⟨3,dn,dnm,dpl,drs,dcs⟩=[Iss.mk 6 ((l.map De.cells).length:Nat) dnm]:=by rw [cardI,if_pos (.inl c1),hm]
     refine⟨by show 0+1≤1;omega,[Iss.cells (Iss.mk 6 ((l.map De.cells).length:Nat) dnm)],rfl,?_⟩
     refine⟨by show 0+1≤1;decide,[Iss.cells (Iss.mk 2 ((l.map De.cells).length:Nat) dnm)],rfl,by show(1+1) * 32≤140737488355328;decide,[Iss.cells (Iss.mk 2 ((l.map De.cells).length:Nat) dnm),Iss.cells (Iss.mk 6 ((l.map De.cells).length:Nat) dnm)],rfl,?_⟩
     exact⟨Nat × List Iss,(fun x=>[(0, .p (des l)),(2, .p (i64 g)),(4, .ptr 0 0 0),(7, .sl 1 3 0 x.2.length),(8, .p (i64 (l.map De.cells).length)),(13, .p (i64 x.1))]),(fun x=>⟨2,[(1,isO x.2),(0,dcO ⟨3,dn,dnm,dpl,drs,dcs⟩)]⟩),(fun x=>x.1≤drs.length∧x.2++refsI l ⟨3,dn,dnm,dpl,drs,dcs⟩ (drs.take x.1) (drs.drop x.1)=preI l ⟨3,dn,dnm,dpl,drs,dcs⟩++refsI l ⟨3,dn,dnm,dpl,drs,dcs⟩ [] drs),(fun x=>drs.length - x.1),⟨(0,[Iss.mk 2 ((l.map De.cells).length:Nat) dnm,Iss.mk 6 ((l.map De.cells).length:Nat) dnm]),⟨Nat.zero_le _,by show [Iss.mk 2 ((l.map De.cells).length:Nat) dnm,Iss.mk 6 ((l.map De.cells).length:Nat) dnm]++_=_;rw [hpre,hT1,hp2,hc];rfl⟩,ent_of [] [(1,5)] [] rfl (sk) (sk) rfl⟩,key.get⟩
    have c1:¬ dn<2:=c1
    refine brLt (fun c2=>?_) (fun c2=>?_)
    ·have c2:4<dn:=c2
     have hc:cardI l ⟨3,dn,dnm,dpl,drs,dcs⟩=[Iss.mk 6 ((l.map De.cells).length:Nat) dnm]:=by rw [cardI,if_pos (.inr c2),hm]
     refine⟨by show 0+1≤1;omega,[Iss.cells (Iss.mk 6 ((l.map De.cells).length:Nat) dnm)],rfl,?_⟩
     refine⟨by show 0+1≤1;decide,[Iss.cells (Iss.mk 2 ((l.map De.cells).length:Nat) dnm)],rfl,by show(1+1) * 32≤140737488355328;decide,[Iss.cells (Iss.mk 2 ((l.map De.cells).length:Nat) dnm),Iss.cells (Iss.mk 6 ((l.map De.cells).length:Nat) dnm)],rfl,?_⟩
     exact⟨Nat × List Iss,(fun x=>[(0, .p (des l)),(2, .p (i64 g)),(4, .ptr 0 0 0),(7, .sl 1 3 0 x.2.length),(8, .p (i64 (l.map De.cells).length)),(13, .p (i64 x.1))]),(fun x=>⟨2,[(1,isO x.2),(0,dcO ⟨3,dn,dnm,dpl,drs,dcs⟩)]⟩),(fun x=>x.1≤drs.length∧x.2++refsI l ⟨3,dn,dnm,dpl,drs,dcs⟩ (drs.take x.1) (drs.drop x.1)=preI l ⟨3,dn,dnm,dpl,drs,dcs⟩++refsI l ⟨3,dn,dnm,dpl,drs,dcs⟩ [] drs),(fun x=>drs.length - x.1),⟨(0,[Iss.mk 2 ((l.map De.cells).length:Nat) dnm,Iss.mk 6 ((l.map De.cells).length:Nat) dnm]),⟨Nat.zero_le _,by show [Iss.mk 2 ((l.map De.cells).length:Nat) dnm,Iss.mk 6 ((l.map De.cells).length:Nat) dnm]++_=_;rw [hpre,hT1,hp2,hc];rfl⟩,ent_of [] [(1,5)] [] rfl (sk) (sk) rfl⟩,key.get⟩
    ·have c2:¬ 4<dn:=c2
     have hc:cardI l ⟨3,dn,dnm,dpl,drs,dcs⟩=[]:=by rw [cardI,if_neg (show ¬ (dn<2∨4<dn) by omega)]
     exact⟨Nat × List Iss,(fun x=>[(0, .p (des l)),(2, .p (i64 g)),(4, .ptr 0 0 0),(7, .sl 1 3 0 x.2.length),(8, .p (i64 (l.map De.cells).length)),(13, .p (i64 x.1))]),(fun x=>⟨2,[(1,isO x.2),(0,dcO ⟨3,dn,dnm,dpl,drs,dcs⟩)]⟩),(fun x=>x.1≤drs.length∧x.2++refsI l ⟨3,dn,dnm,dpl,drs,dcs⟩ (drs.take x.1) (drs.drop x.1)=preI l ⟨3,dn,dnm,dpl,drs,dcs⟩++refsI l ⟨3,dn,dnm,dpl,drs,dcs⟩ [] drs),(fun x=>drs.length - x.1),⟨(0,[Iss.mk 2 ((l.map De.cells).length:Nat) dnm]),⟨Nat.zero_le _,by show [Iss.mk 2 ((l.map De.cells).length:Nat) dnm]++_=_;rw [hpre,hT1,hp2,hc];rfl⟩,ent_of [] [(1,3)] [] rfl (sk) (sk) rfl⟩,key.get⟩
   obtain⟨hp1,hp⟩:=hp
   refine And.intro (fun h=>absurd h hp1) (fun _=>?_)
   refine Or.elim hp (fun hp=>?_) (fun hp=>?_)
   ·obtain⟨hp2,hp3⟩:=hp
    refine hp3.eq rfl ?_
    refine⟨by show 0+1≤1;omega,[Iss.cells (Iss.mk 3 ((l.map De.cells).length:Nat) dpl)],rfl,?_⟩
    refine⟨by show 0+1≤1;decide,[Iss.cells (Iss.mk 2 ((l.map De.cells).length:Nat) dnm)],rfl,by show(1+1) * 32≤140737488355328;decide,[Iss.cells (Iss.mk 2 ((l.map De.cells).length:Nat) dnm),Iss.cells (Iss.mk 3 ((l.map De.cells).length:Nat) dpl)],rfl,?_⟩
    refine And.intro (fun _=>?_) (fun h=>absurd rfl h)
    refine brLt (fun c1=>?_) (fun c1=>?_)
    ·have c1:dn<2:=c1
     have hc:cardI l ⟨3,dn,dnm,dpl,drs,dcs⟩=[Iss.mk 6 ((l.map De.cells).length:Nat) dnm]:=by rw [cardI,if_pos (.inl c1),hm]
     refine⟨by show 0+1≤1;omega,[Iss.cells (Iss.mk 6 ((l.map De.cells).length:Nat) dnm)],rfl,?_⟩
     refine⟨by show 0+2≤2;decide,[Iss.cells (Iss.mk 2 ((l.map De.cells).length:Nat) dnm),Iss.cells (Iss.mk 3 ((l.map De.cells).length:Nat) dpl)],rfl,by show(2+1) * 32≤140737488355328;decide,[Iss.cells (Iss.mk 2 ((l.map De.cells).length:Nat) dnm),Iss.cells (Iss.mk 3 ((l.map De.cells).length:Nat) dpl),Iss.cells (Iss.mk 6 ((l.map De.cells).length:Nat) dnm)],rfl,?_⟩
     exact⟨Nat × List Iss,(fun x=>[(0, .p (des l)),(2, .p (i64 g)),(4, .ptr 0 0 0),(7, .sl 1 3 0 x.2.length),(8, .p (i64 (l.map De.cells).length)),(13, .p (i64 x.1))]),(fun x=>⟨2,[(1,isO x.2),(0,dcO ⟨3,dn,dnm,dpl,drs,dcs⟩)]⟩),(fun x=>x.1≤drs.length∧x.2++refsI l ⟨3,dn,dnm,dpl,drs,dcs⟩ (drs.take x.1) (drs.drop x.1)=preI l ⟨3,dn,dnm,dpl,drs,dcs⟩++refsI l ⟨3,dn,dnm,dpl,drs,dcs⟩ [] drs),(fun x=>drs.length - x.1),⟨(0,[Iss.mk 2 ((l.map De.cells).length:Nat) dnm,Iss.mk 3 ((l.map De.cells).length:Nat) dpl,Iss.mk 6 ((l.map De.cells).length:Nat) dnm]),⟨Nat.zero_le _,by show [Iss.mk 2 ((l.map De.cells).length:Nat) dnm,Iss.mk 3 ((l.map De.cells).length:Nat) dpl,Iss.mk 6 ((l.map De.cells).length:Nat) dnm]++_=_;rw [hpre,hT1,hp2,hc];rfl⟩,ent_of [] [(1,8)] [] rfl (sk) (sk) rfl⟩,key.get⟩
    have c1:¬ dn<2:=c1
    refine brLt (fun c2=>?_) (fun c2=>?_)
    ·have c2:4<dn:=c2
     have hc:cardI l ⟨3,dn,dnm,dpl,drs,dcs⟩=[Iss.mk 6 ((l.map De.cells).length:Nat) dnm]:=by rw [cardI,if_pos (.inr c2),hm]
     refine⟨by show 0+1≤1;omega,[Iss.cells (Iss.mk 6 ((l.map De.cells).length:Nat) dnm)],rfl,?_⟩
     refine⟨by show 0+2≤2;decide,[Iss.cells (Iss.mk 2 ((l.map De.cells).length:Nat) dnm),Iss.cells (Iss.mk 3 ((l.map De.cells).length:Nat) dpl)],rfl,by show(2+1) * 32≤140737488355328;decide,[Iss.cells (Iss.mk 2 ((l.map De.cells).length:Nat) dnm),Iss.cells (Iss.mk 3 ((l.map De.cells).length:Nat) dpl),Iss.cells (Iss.mk 6 ((l.map De.cells).length:Nat) dnm)],rfl,?_⟩
     exact⟨Nat × List Iss,(fun x=>[(0, .p (des l)),(2, .p (i64 g)),(4, .ptr 0 0 0),(7, .sl 1 3 0 x.2.length),(8, .p (i64 (l.map De.cells).length)),(13, .p (i64 x.1))]),(fun x=>⟨2,[(1,isO x.2),(0,dcO ⟨3,dn,dnm,dpl,drs,dcs⟩)]⟩),(fun x=>x.1≤drs.length∧x.2++refsI l ⟨3,dn,dnm,dpl,drs,dcs⟩ (drs.take x.1) (drs.drop x.1)=preI l ⟨3,dn,dnm,dpl,drs,dcs⟩++refsI l ⟨3,dn,dnm,dpl,drs,dcs⟩ [] drs),(fun x=>drs.length - x.1),⟨(0,[Iss.mk 2 ((l.map De.cells).length:Nat) dnm,Iss.mk 3 ((l.map De.cells).length:Nat) dpl,Iss.mk 6 ((l.map De.cells).length:Nat) dnm]),⟨Nat.zero_le _,by show [Iss.mk 2 ((l.map De.cells).length:Nat) dnm,Iss.mk 3 ((l.map De.cells).length:Nat) dpl,Iss.mk 6 ((l.map De.cells).length:Nat) dnm]++_=_;rw [hpre,hT1,hp2,hc];rfl⟩,ent_of [] [(1,8)] [] rfl (sk) (sk) rfl⟩,key.get⟩
    ·have c2:¬ 4<dn:=c2
     have hc:cardI l ⟨3,dn,dnm,dpl,drs,dcs⟩=[]:=by rw [cardI,if_neg (show ¬ (dn<2∨4<dn) by omega)]
     exact⟨Nat × List Iss,(fun x=>[(0, .p (des l)),(2, .p (i64 g)),(4, .ptr 0 0 0),(7, .sl 1 3 0 x.2.length),(8, .p (i64 (l.map De.cells).length)),(13, .p (i64 x.1))]),(fun x=>⟨2,[(1,isO x.2),(0,dcO ⟨3,dn,dnm,dpl,drs,dcs⟩)]⟩),(fun x=>x.1≤drs.length∧x.2++refsI l ⟨3,dn,dnm,dpl,drs,dcs⟩ (drs.take x.1) (drs.drop x.1)=preI l ⟨3,dn,dnm,dpl,drs,dcs⟩++refsI l ⟨3,dn,dnm,dpl,drs,dcs⟩ [] drs),(fun x=>drs.length - x.1),⟨(0,[Iss.mk 2 ((l.map De.cells).length:Nat) dnm,Iss.mk 3 ((l.map De.cells).length:Nat) dpl]),⟨Nat.zero_le _,by show [Iss.mk 2 ((l.map De.cells).length:Nat) dnm,Iss.mk 3 ((l.map De.cells).length:Nat) dpl]++_=_;rw [hpre,hT1,hp2,hc];rfl⟩,ent_of [] [(1,6)] [] rfl (sk) (sk) rfl⟩,key.get⟩
   obtain⟨y1,y2,y3,y4,y5,hp⟩:=hp
   refine Or.elim hp (fun hp=>?_) (fun hp=>?_)
   ·obtain⟨hp2,hp3,hp4⟩:=hp
    refine hp3.eq rfl ?_
    refine And.intro (fun _=>?_) (fun h=>absurd hp4 h)
    refine And.intro (fun _=>?_) (fun h=>absurd rfl h)
    refine brLt (fun c1=>?_) (fun c1=>?_)
    ·have c1:dn<2:=c1
     have hc:cardI l ⟨3,dn,dnm,dpl,drs,dcs⟩=[Iss.mk 6 ((l.map De.cells).length:Nat) dnm]:=by rw [cardI,if_pos (.inl c1),hm]
     refine⟨by show 0+1≤1;omega,[Iss.cells (Iss.mk 6 ((l.map De.cells).length:Nat) dnm)],rfl,?_⟩
     refine⟨by show 0+1≤1;decide,[Iss.cells (Iss.mk 2 ((l.map De.cells).length:Nat) dnm)],rfl,by show(1+1) * 32≤140737488355328;decide,[Iss.cells (Iss.mk 2 ((l.map De.cells).length:Nat) dnm),Iss.cells (Iss.mk 6 ((l.map De.cells).length:Nat) dnm)],rfl,?_⟩
     exact⟨Nat × List Iss,(fun x=>[(0, .p (des l)),(2, .p (i64 g)),(4, .ptr 0 0 0),(7, .sl 1 3 0 x.2.length),(8, .p (i64 (l.map De.cells).length)),(13, .p (i64 x.1))]),(fun x=>⟨2,[(1,isO x.2),(0,dcO ⟨3,dn,dnm,dpl,drs,dcs⟩)]⟩),(fun x=>x.1≤drs.length∧x.2++refsI l ⟨3,dn,dnm,dpl,drs,dcs⟩ (drs.take x.1) (drs.drop x.1)=preI l ⟨3,dn,dnm,dpl,drs,dcs⟩++refsI l ⟨3,dn,dnm,dpl,drs,dcs⟩ [] drs),(fun x=>drs.length - x.1),⟨(0,[Iss.mk 2 ((l.map De.cells).length:Nat) dnm,Iss.mk 6 ((l.map De.cells).length:Nat) dnm]),⟨Nat.zero_le _,by show [Iss.mk 2 ((l.map De.cells).length:Nat) dnm,Iss.mk 6 ((l.map De.cells).length:Nat) dnm]++_=_;rw [hpre,hT1,hp2,hc];rfl⟩,ent_of [] [(1,6)] [] rfl (sk) (sk) rfl⟩,key.get⟩
    have c1:¬ dn<2:=c1
    refine brLt (fun c2=>?_) (fun c2=>?_)
    ·have c2:4<dn:=c2
     have hc:cardI l ⟨3,dn,dnm,dpl,drs,dcs⟩=[Iss.mk 6 ((l.map De.cells).length:Nat) dnm]:=by rw [cardI,if_pos (.inr c2),hm]
     refine⟨by show 0+1≤1;omega,[Iss.cells (Iss.mk 6 ((l.map De.cells).length:Nat) dnm)],rfl,?_⟩
     refine⟨by show 0+1≤1;decide,[Iss.cells (Iss.mk 2 ((l.map De.cells).length:Nat) dnm)],rfl,by show(1+1) * 32≤140737488355328;decide,[Iss.cells (Iss.mk 2 ((l.map De.cells).length:Nat) dnm),Iss.cells (Iss.mk 6 ((l.map De.cells).length:Nat) dnm)],rfl,?_⟩
     exact⟨Nat × List Iss,(fun x=>[(0, .p (des l)),(2, .p (i64 g)),(4, .ptr 0 0 0),(7, .sl 1 3 0 x.2.length),(8, .p (i64 (l.map De.cells).length)),(13, .p (i64 x.1))]),(fun x=>⟨2,[(1,isO x.2),(0,dcO ⟨3,dn,dnm,dpl,drs,dcs⟩)]⟩),(fun x=>x.1≤drs.length∧x.2++refsI l ⟨3,dn,dnm,dpl,drs,dcs⟩ (drs.take x.1) (drs.drop x.1)=preI l ⟨3,dn,dnm,dpl,drs,dcs⟩++refsI l ⟨3,dn,dnm,dpl,drs,dcs⟩ [] drs),(fun x=>drs.length - x.1),⟨(0,[Iss.mk 2 ((l.map De.cells).length:Nat) dnm,Iss.mk 6 ((l.map De.cells).length:Nat) dnm]),⟨Nat.zero_le _,by show [Iss.mk 2 ((l.map De.cells).length:Nat) dnm,Iss.mk 6 ((l.map De.cells).length:Nat) dnm]++_=_;rw [hpre,hT1,hp2,hc];rfl⟩,ent_of [] [(1,6)] [] rfl (sk) (sk) rfl⟩,key.get⟩
    ·have c2:¬ 4<dn:=c2
     have hc:cardI l ⟨3,dn,dnm,dpl,drs,dcs⟩=[]:=by rw [cardI,if_neg (show ¬ (dn<2∨4<dn) by omega)]
     exact⟨Nat × List Iss,(fun x=>[(0, .p (des l)),(2, .p (i64 g)),(4, .ptr 0 0 0),(7, .sl 1 3 0 x.2.length),(8, .p (i64 (l.map De.cells).length)),(13, .p (i64 x.1))]),(fun x=>⟨2,[(1,isO x.2),(0,dcO ⟨3,dn,dnm,dpl,drs,dcs⟩)]⟩),(fun x=>x.1≤drs.length∧x.2++refsI l ⟨3,dn,dnm,dpl,drs,dcs⟩ (drs.take x.1) (drs.drop x.1)=preI l ⟨3,dn,dnm,dpl,drs,dcs⟩++refsI l ⟨3,dn,dnm,dpl,drs,dcs⟩ [] drs),(fun x=>drs.length - x.1),⟨(0,[Iss.mk 2 ((l.map De.cells).length:Nat) dnm]),⟨Nat.zero_le _,by show [Iss.mk 2 ((l.map De.cells).length:Nat) dnm]++_=_;rw [hpre,hT1,hp2,hc];rfl⟩,ent_of [] [(1,3)] [] rfl (sk) (sk) rfl⟩,key.get⟩
   ·obtain⟨hp2,hp3,hp4⟩:=hp
    refine hp3.eq rfl ?_
    refine And.intro (fun h=>absurd h hp4) (fun _=>?_)
    refine⟨by show 0+1≤1;omega,[Iss.cells (Iss.mk 4 ((l.map De.cells).length:Nat) dpl)],rfl,?_⟩
    refine⟨by show 0+1≤1;decide,[Iss.cells (Iss.mk 2 ((l.map De.cells).length:Nat) dnm)],rfl,by show(1+1) * 32≤140737488355328;decide,[Iss.cells (Iss.mk 2 ((l.map De.cells).length:Nat) dnm),Iss.cells (Iss.mk 4 ((l.map De.cells).length:Nat) dpl)],rfl,?_⟩
    refine And.intro (fun _=>?_) (fun h=>absurd rfl h)
    refine brLt (fun c1=>?_) (fun c1=>?_)
    ·have c1:dn<2:=c1
     have hc:cardI l ⟨3,dn,dnm,dpl,drs,dcs⟩=[Iss.mk 6 ((l.map De.cells).length:Nat) dnm]:=by rw [cardI,if_pos (.inl c1),hm]
     refine⟨by show 0+1≤1;omega,[Iss.cells (Iss.mk 6 ((l.map De.cells).length:Nat) dnm)],rfl,?_⟩
     refine⟨by show 0+2≤2;decide,[Iss.cells (Iss.mk 2 ((l.map De.cells).length:Nat) dnm),Iss.cells (Iss.mk 4 ((l.map De.cells).length:Nat) dpl)],rfl,by show(2+1) * 32≤140737488355328;decide,[Iss.cells (Iss.mk 2 ((l.map De.cells).length:Nat) dnm),Iss.cells (Iss.mk 4 ((l.map De.cells).length:Nat) dpl),Iss.cells (Iss.mk 6 ((l.map De.cells).length:Nat) dnm)],rfl,?_⟩
     exact⟨Nat × List Iss,(fun x=>[(0, .p (des l)),(2, .p (i64 g)),(4, .ptr 0 0 0),(7, .sl 1 3 0 x.2.length),(8, .p (i64 (l.map De.cells).length)),(13, .p (i64 x.1))]),(fun x=>⟨2,[(1,isO x.2),(0,dcO ⟨3,dn,dnm,dpl,drs,dcs⟩)]⟩),(fun x=>x.1≤drs.length∧x.2++refsI l ⟨3,dn,dnm,dpl,drs,dcs⟩ (drs.take x.1) (drs.drop x.1)=preI l ⟨3,dn,dnm,dpl,drs,dcs⟩++refsI l ⟨3,dn,dnm,dpl,drs,dcs⟩ [] drs),(fun x=>drs.length - x.1),⟨(0,[Iss.mk 2 ((l.map De.cells).length:Nat) dnm,Iss.mk 4 ((l.map De.cells).length:Nat) dpl,Iss.mk 6 ((l.map De.cells).length:Nat) dnm]),⟨Nat.zero_le _,by show [Iss.mk 2 ((l.map De.cells).length:Nat) dnm,Iss.mk 4 ((l.map De.cells).length:Nat) dpl,Iss.mk 6 ((l.map De.cells).length:Nat) dnm]++_=_;rw [hpre,hT1,hp2,hc];rfl⟩,ent_of [] [(1,8)] [] rfl (sk) (sk) rfl⟩,key.get⟩
    have c1:¬ dn<2:=c1
    refine brLt (fun c2=>?_) (fun c2=>?_)
    ·have c2:4<dn:=c2
     have hc:cardI l ⟨3,dn,dnm,dpl,drs,dcs⟩=[Iss.mk 6 ((l.map De.cells).length:Nat) dnm]:=by rw [cardI,if_pos (.inr c2),hm]
     refine⟨by show 0+1≤1;omega,[Iss.cells (Iss.mk 6 ((l.map De.cells).length:Nat) dnm)],rfl,?_⟩
     refine⟨by show 0+2≤2;decide,[Iss.cells (Iss.mk 2 ((l.map De.cells).length:Nat) dnm),Iss.cells (Iss.mk 4 ((l.map De.cells).length:Nat) dpl)],rfl,by show(2+1) * 32≤140737488355328;decide,[Iss.cells (Iss.mk 2 ((l.map De.cells).length:Nat) dnm),Iss.cells (Iss.mk 4 ((l.map De.cells).length:Nat) dpl),Iss.cells (Iss.mk 6 ((l.map De.cells).length:Nat) dnm)],rfl,?_⟩
     exact⟨Nat × List Iss,(fun x=>[(0, .p (des l)),(2, .p (i64 g)),(4, .ptr 0 0 0),(7, .sl 1 3 0 x.2.length),(8, .p (i64 (l.map De.cells).length)),(13, .p (i64 x.1))]),(fun x=>⟨2,[(1,isO x.2),(0,dcO ⟨3,dn,dnm,dpl,drs,dcs⟩)]⟩),(fun x=>x.1≤drs.length∧x.2++refsI l ⟨3,dn,dnm,dpl,drs,dcs⟩ (drs.take x.1) (drs.drop x.1)=preI l ⟨3,dn,dnm,dpl,drs,dcs⟩++refsI l ⟨3,dn,dnm,dpl,drs,dcs⟩ [] drs),(fun x=>drs.length - x.1),⟨(0,[Iss.mk 2 ((l.map De.cells).length:Nat) dnm,Iss.mk 4 ((l.map De.cells).length:Nat) dpl,Iss.mk 6 ((l.map De.cells).length:Nat) dnm]),⟨Nat.zero_le _,by show [Iss.mk 2 ((l.map De.cells).length:Nat) dnm,Iss.mk 4 ((l.map De.cells).length:Nat) dpl,Iss.mk 6 ((l.map De.cells).length:Nat) dnm]++_=_;rw [hpre,hT1,hp2,hc];rfl⟩,ent_of [] [(1,8)] [] rfl (sk) (sk) rfl⟩,key.get⟩
    ·have c2:¬ 4<dn:=c2
     have hc:cardI l ⟨3,dn,dnm,dpl,drs,dcs⟩=[]:=by rw [cardI,if_neg (show ¬ (dn<2∨4<dn) by omega)]
     exact⟨Nat × List Iss,(fun x=>[(0, .p (des l)),(2, .p (i64 g)),(4, .ptr 0 0 0),(7, .sl 1 3 0 x.2.length),(8, .p (i64 (l.map De.cells).length)),(13, .p (i64 x.1))]),(fun x=>⟨2,[(1,isO x.2),(0,dcO ⟨3,dn,dnm,dpl,drs,dcs⟩)]⟩),(fun x=>x.1≤drs.length∧x.2++refsI l ⟨3,dn,dnm,dpl,drs,dcs⟩ (drs.take x.1) (drs.drop x.1)=preI l ⟨3,dn,dnm,dpl,drs,dcs⟩++refsI l ⟨3,dn,dnm,dpl,drs,dcs⟩ [] drs),(fun x=>drs.length - x.1),⟨(0,[Iss.mk 2 ((l.map De.cells).length:Nat) dnm,Iss.mk 4 ((l.map De.cells).length:Nat) dpl]),⟨Nat.zero_le _,by show [Iss.mk 2 ((l.map De.cells).length:Nat) dnm,Iss.mk 4 ((l.map De.cells).length:Nat) dpl]++_=_;rw [hpre,hT1,hp2,hc];rfl⟩,ent_of [] [(1,6)] [] rfl (sk) (sk) rfl⟩,key.get⟩
 case k=>
  rintro⟨k,cur⟩ ⟨k1,k2⟩
  simp only [] at k1 k2
  have hcl:cur.length≤400:=by
   have e:=congrArg List.length k2
   rw [List.length_append,List.length_append] at e
   omega
  (first | refine brLt (fun m1=>?_) (fun m1=>?_) | refine brLe (fun m1=>?_) (fun m1=>?_) | refine brEq (fun m1=>?_) (fun m1=>?_))
  rotate_left
  ·have m1:¬ (k:Int)<((drs.map Rf.cells).length:Nat):=m1
   rw [List.length_map] at m1
   rw [List.drop_eq_nil_of_le (by omega),refsI,List.append_nil] at k2
   refine⟨Nat × List Iss,fun x=>[(0, .p (des l)),(2, .p (i64 g)),(4, .ptr 0 0 0),(7, .sl 1 3 0 x.2.length),(8, .p (i64 (l.map De.cells).length)),(17, .p (i64 x.1))],fun x=>⟨2,[(1,isO x.2),(0,dcO ⟨3,dn,dnm,dpl,drs,dcs⟩)]⟩,fun x=>x.1≤dcs.length∧x.2++casesI l ⟨3,dn,dnm,dpl,drs,dcs⟩ g (dcs.drop x.1)=cur++casesI l ⟨3,dn,dnm,dpl,drs,dcs⟩ g dcs,fun x=>dcs.length - x.1,?_,?_⟩
   ·exact⟨(0,cur),⟨Nat.zero_le _,rfl⟩,ent_of [] [] [] rfl (sk) (sk) rfl⟩
   rintro⟨j,cu⟩ ⟨j1,j2⟩
   simp only [] at j1 j2
   have htot:(cur++casesI l ⟨3,dn,dnm,dpl,drs,dcs⟩ g dcs).length≤1000:=by rw [List.length_append];omega
   (first | refine brLt (fun n1=>?_) (fun n1=>?_) | refine brLe (fun n1=>?_) (fun n1=>?_) | refine brEq (fun n1=>?_) (fun n1=>?_))
   rotate_left
   ·have n1:¬ (j:Int)<((dcs.map Cs.cells).length:Nat):=n1
    rw [List.length_map] at n1
    rw [List.drop_eq_nil_of_le (by omega),show casesI l ⟨3,dn,dnm,dpl,drs,dcs⟩ g []=[] from rfl,List.append_nil] at j2
    exact end1 (isl cu) rfl ⟨_,rfl,by show 0+cu.length≤(cu.map Iss.cells).length;simp,takeAll (by simp)⟩ (by rw [j2,k2,List.append_assoc])
   have n1:(j:Int)<((dcs.map Cs.cells).length:Nat):=n1
   rw [List.length_map] at n1
   have hj:j<dcs.length:=by omega
   have hcell:=scell hj
   have hx:=(hca _ (getD_memL cs0 hj)).ok
   rw [dropD cs0 hj,casesI_step,← List.append_assoc,← List.append_assoc] at j2
   rw [← j2,List.length_append,List.length_append] at htot
   generalize dcs.getD j cs0=x at hcell hx j2 htot
   obtain⟨⟨xo,xn,xr,xv,xf,xs,xa⟩,xw⟩:=x
   obtain⟨x1,x2,x3⟩:=hx
   simp only [] at x1 x2 x3 j2 htot
   have hr:=scrrow_c ⟨3,dn,dnm,dpl,drs,dcs⟩ xw g x2 x3
   refine vdraw_ot otO36 (by kernel_rfl) ?_
   refine⟨_,⟨by omega,(⟨.mk xo xn xr xv xf xs xa,xw⟩:Cs).cells,hcell,rfl⟩,?_⟩
   refine(rcond_h l ⟨3,dn,dnm,dpl,drs,dcs⟩ (by show drs.length≤100;omega) hl hok _ (.mk xo xn xr xv xf xs xa) cu (Nat.le_refl _) x1 (by omega)).holds.useT [] [(0,1)] rfl (sk) (sk) fun e0 H0 hq=>?_
   obtain⟨rfl,rfl⟩:=hq
   have hnl:(cu++condI l ⟨3,dn,dnm,dpl,drs,dcs⟩ (.mk xo xn xr xv xf xs xa)).length≤1000:=by omega
   generalize cu++condI l ⟨3,dn,dnm,dpl,drs,dcs⟩ (.mk xo xn xr xv xf xs xa)=nxt at j2 hnl ⊢
   refine⟨rfl,_,⟨3,(2,isO nxt)::[(0,dcO ⟨3,dn,dnm,dpl,drs,dcs⟩)]⟩,rfl,rfl,?_⟩
   refine vdraw_ot otO37 (by kernel_rfl) ?_
   refine⟨_,⟨by omega,(⟨.mk xo xn xr xv xf xs xa,xw⟩:Cs).cells,hcell,rfl⟩,?_⟩
   by_cases hrow:rowI ⟨3,dn,dnm,dpl,drs,dcs⟩ xw g=true
   ·rw [hrow] at hr j2
    rw [if_pos rfl,List.append_nil] at j2
    refine hr.eq rfl ?_
    refine⟨_,wrap_i64 (by omega) (by omega),?_⟩
    exact⟨(j+1,nxt),⟨by show j+1≤dcs.length;omega,j2⟩,ent_of [] [(1,2)] [] rfl (sk) (sk) rfl,by show dcs.length - (j+1)<dcs.length - j;omega⟩
   ·rw [Bool.not_eq_true] at hrow
    rw [hrow] at hr j2
    rw [if_neg (by decide),← hm] at j2
    refine hr.eq rfl ?_
    refine⟨by show 0+1≤1;omega,[Iss.cells (Iss.mk 9 ((l.map De.cells).length:Nat) [])],rfl,?_⟩
    refine⟨by show 0+(nxt.length)≤((nxt).map Iss.cells).length;simp,(nxt).map Iss.cells,takeAll (by simp),by show((nxt.length)+1) * 32≤140737488355328;omega,((nxt)++[Iss.mk 9 ((l.map De.cells).length:Nat) []]).map Iss.cells,by rw [List.map_append];rfl,?_⟩
    refine⟨_,wrap_i64 (by omega) (by omega),?_⟩
    exact⟨(j+1,nxt++[Iss.mk 9 ((l.map De.cells).length:Nat) []]),⟨by show j+1≤dcs.length;omega,j2⟩,ent_of [] [(1,4)] [] rfl ⟨rfl,rfl,⟨rfl,rfl⟩,congrArg (fun j:Nat=>AV.sl 4 3 0 j) (snoc_len _ _).symm,rfl,rfl,trivial⟩ (sk) rfl,by show dcs.length - (j+1)<dcs.length - j;omega⟩
  have m1:(k:Int)<((drs.map Rf.cells).length:Nat):=m1
  rw [List.length_map] at m1
  have hk:k<drs.length:=by omega
  have hcell:=rcell hk
  have hxn:=hrn _ (getD_memL rf0 hk)
  have hstep:refsI l ⟨3,dn,dnm,dpl,drs,dcs⟩ (drs.take k) (drs.drop k)=(if drs.getD k rf0∈drs.take k then [⟨2,((l.map De.cells).length:Nat),(drs.getD k rf0).name⟩] else [])++(noteI (refI l ⟨3,dn,dnm,dpl,drs,dcs⟩ (drs.getD k rf0)) ((l.map De.cells).length:Nat) (drs.getD k rf0).name++refsI l ⟨3,dn,dnm,dpl,drs,dcs⟩ (drs.take (k+1)) (drs.drop (k+1))):=by
   rw [dropD rf0 hk,refsI,hm,take_succ_getD rf0 hk]
  generalize drs.getD k rf0=x at hcell hxn hstep
  have hRf:=scref_c l ⟨3,dn,dnm,dpl,drs,dcs⟩ x hxn hl hok
  have hnn:=refI_nn l ⟨3,dn,dnm,dpl,drs,dcs⟩ x
  generalize refI l ⟨3,dn,dnm,dpl,drs,dcs⟩ x=kk at hRf hnn hstep
  refine⟨Nat × Bool,fun y=>[(0, .p (des l)),(2, .p (i64 g)),(4, .ptr 0 0 0),(7, .sl 1 3 0 cur.length),(8, .p (i64 (l.map De.cells).length)),(13, .p (i64 k)),(14, .p (.bool y.2)),(15, .p (i64 y.1))],fun _=>⟨2,[(1,isO cur),(0,dcO ⟨3,dn,dnm,dpl,drs,dcs⟩)]⟩,fun y=>y.1≤k∧y.2=decide (x∈drs.take y.1),fun y=>k - y.1,?_,?_⟩
  ·exact⟨(0,false),⟨Nat.zero_le _,by simp⟩,ent_of [] [] [] rfl (sk) (sk) rfl⟩
  rintro⟨j,b⟩ ⟨j1,j2⟩
  simp only [] at j1 j2
  cases b
  ·(first | refine brLt (fun n1=>?_) (fun n1=>?_) | refine brLe (fun n1=>?_) (fun n1=>?_) | refine brEq (fun n1=>?_) (fun n1=>?_))
   ·have n1:(j:Int)<(k:Nat):=n1
    have hj:j<drs.length:=by omega
    have hcj:=rcell hj
    have hnx:(x∈drs.take (j+1)) ↔ (x∈drs.take j∨x=drs.getD j rf0):=by rw [take_succ_getD rf0 hj,List.mem_append,List.mem_singleton]
    generalize drs.getD j rf0=y at hcj hnx
    refine vdraw_ot otO27 (by kernel_rfl) ?_
    refine⟨_,⟨by omega,y.cells,hcj,rfl⟩,?_⟩
    refine⟨_,⟨by omega,x.cells,hcell,rfl⟩,?_⟩
    refine⟨⟨by kernel_rfl,by kernel_rfl⟩,fun e1=>?_,fun e1=>?_⟩
    ·have e1:y=x:=rf_ext (by first | exact e1 | (injection e1))
     refine⟨_,wrap_i64 (by omega) (by omega),?_⟩
     exact⟨(j+1,true),⟨by show j+1≤k;omega,(decide_eq_true (hnx.2 (.inr e1.symm))).symm⟩,ent_of [] [] [] rfl (sk) (sk) rfl,by show k - (j+1)<k - j;omega⟩
    ·have e1:¬ y=x:=fun e=>e1 (by rw [e])
     have hno:¬ x∈drs.take j:=of_decide_eq_false j2.symm
     refine⟨_,wrap_i64 (by omega) (by omega),?_⟩
     exact⟨(j+1,false),⟨by show j+1≤k;omega,(decide_eq_false (fun h=>(hnx.1 h).elim hno fun e=>e1 e.symm)).symm⟩,ent_of [] [] [] rfl (sk) (sk) rfl,by show k - (j+1)<k - j;omega⟩
   ·have n1:¬ (j:Int)<(k:Nat):=n1
    have hjk:j=k:=by omega
    have hno:¬ x∈drs.take k:=by rw [hjk] at j2;exact of_decide_eq_false j2.symm
    rw [if_neg hno] at hstep
    clear hjk n1 j1 j2
    refine vdraw_ot otO30 (by kernel_rfl) ?_
    refine⟨_,⟨by omega,x.cells,hcell,rfl⟩,?_⟩
    refine hRf.eq rfl ?_
    refine brLt (fun z=>?_) (fun z=>?_)
    ·have z:0<kk:=z
     rw [noteI,if_neg (show ¬ kk=0 by omega)] at hstep
     refine⟨_,⟨by omega,x.cells,hcell,rfl⟩,?_⟩
     refine⟨by show 0+1≤1;omega,[Iss.cells (Iss.mk kk ((l.map De.cells).length:Nat) x.name)],rfl,?_⟩
     refine⟨by show 0+(cur.length)≤((cur).map Iss.cells).length;simp,(cur).map Iss.cells,takeAll (by simp),by show((cur.length)+1) * 32≤140737488355328;omega,((cur)++[Iss.mk kk ((l.map De.cells).length:Nat) x.name]).map Iss.cells,by rw [List.map_append];rfl,?_⟩
     refine⟨_,wrap_i64 (by omega) (by omega),?_⟩
     exact⟨(k+1,(cur)++[Iss.mk kk ((l.map De.cells).length:Nat) x.name]),⟨by show k+1≤drs.length;omega,by rw [← k2];rw [hstep,List.append_assoc] <;> rfl⟩,ent_of [] [(1,3)] [] rfl ⟨rfl,rfl,⟨rfl,rfl⟩,congrArg (fun j:Nat=>AV.sl 3 3 0 j) (snoc_len cur _).symm,rfl,rfl,trivial⟩ (sk) rfl,by show drs.length - (k+1)<drs.length - k;omega⟩
    ·have z:¬ 0<kk:=z
     rw [noteI,if_pos (show kk=0 by omega)] at hstep
     refine⟨_,wrap_i64 (by omega) (by omega),?_⟩
     exact⟨(k+1,cur),⟨by show k+1≤drs.length;omega,by rw [← k2];rw [hstep] <;> rfl⟩,ent_of [] [(1,1)] [] rfl ⟨rfl,rfl,⟨rfl,rfl⟩,rfl,rfl,rfl,trivial⟩ (sk) rfl,by show drs.length - (k+1)<drs.length - k;omega⟩
  ·(first | refine brLt (fun n1=>?_) (fun n1=>?_) | refine brLe (fun n1=>?_) (fun n1=>?_) | refine brEq (fun n1=>?_) (fun n1=>?_))
   ·have n1:(j:Int)<(k:Nat):=n1
    have hj:j<drs.length:=by omega
    have hnx:(x∈drs.take (j+1)) ↔ (x∈drs.take j∨x=drs.getD j rf0):=by rw [take_succ_getD rf0 hj,List.mem_append,List.mem_singleton]
    have hyes:x∈drs.take j:=of_decide_eq_true j2.symm
    refine vdraw_ot otO27 (by kernel_rfl) ?_
    refine⟨_,wrap_i64 (by omega) (by omega),?_⟩
    exact⟨(j+1,true),⟨by show j+1≤k;omega,(decide_eq_true (hnx.2 (.inl hyes))).symm⟩,ent_of [] [] [] rfl (sk) (sk) rfl,by show k - (j+1)<k - j;omega⟩
   ·have n1:¬ (j:Int)<(k:Nat):=n1
    have hjk:j=k:=by omega
    have hyes:x∈drs.take k:=by rw [hjk] at j2;exact of_decide_eq_true j2.symm
    rw [if_pos hyes] at hstep
    clear hjk n1 j1 j2
    refine⟨_,⟨by omega,x.cells,hcell,rfl⟩,?_⟩
    refine⟨by show 0+1≤1;omega,[Iss.cells (Iss.mk 2 ((l.map De.cells).length:Nat) x.name)],rfl,?_⟩
    refine⟨by show 0+(cur.length)≤((cur).map Iss.cells).length;simp,(cur).map Iss.cells,takeAll (by simp),by show((cur.length)+1) * 32≤140737488355328;omega,((cur)++[Iss.mk 2 ((l.map De.cells).length:Nat) x.name]).map Iss.cells,by rw [List.map_append];rfl,?_⟩
    refine vdraw_ot otO30 (by kernel_rfl) ?_
    refine⟨_,⟨by omega,x.cells,hcell,rfl⟩,?_⟩
    refine hRf.eq rfl ?_
    refine brLt (fun z=>?_) (fun z=>?_)
    ·have z:0<kk:=z
     rw [noteI,if_neg (show ¬ kk=0 by omega)] at hstep
     refine⟨_,⟨by omega,x.cells,hcell,rfl⟩,?_⟩
     refine⟨by show 0+1≤1;omega,[Iss.cells (Iss.mk kk ((l.map De.cells).length:Nat) x.name)],rfl,?_⟩
     refine⟨by show 0+(cur.length+1)≤((cur++[Iss.mk 2 ((l.map De.cells).length:Nat) x.name]).map Iss.cells).length;simp,(cur++[Iss.mk 2 ((l.map De.cells).length:Nat) x.name]).map Iss.cells,takeAll (by simp),by show((cur.length+1)+1) * 32≤140737488355328;omega,((cur++[Iss.mk 2 ((l.map De.cells).length:Nat) x.name])++[Iss.mk kk ((l.map De.cells).length:Nat) x.name]).map Iss.cells,by rw [List.map_append];rfl,?_⟩
     refine⟨_,wrap_i64 (by omega) (by omega),?_⟩
     exact⟨(k+1,(cur++[Iss.mk 2 ((l.map De.cells).length:Nat) x.name])++[Iss.mk kk ((l.map De.cells).length:Nat) x.name]),⟨by show k+1≤drs.length;omega,by rw [← k2];rw [hstep,List.append_assoc,List.append_assoc] <;> rfl⟩,ent_of [] [(1,5)] [] rfl ⟨rfl,rfl,⟨rfl,rfl⟩,congrArg (fun j:Nat=>AV.sl 5 3 0 j) ((snoc_len _ _).trans (congrArg (fun z:Nat=>z+1) (snoc_len cur _))).symm,rfl,rfl,trivial⟩ (sk) rfl,by show drs.length - (k+1)<drs.length - k;omega⟩
    ·have z:¬ 0<kk:=z
     rw [noteI,if_pos (show kk=0 by omega)] at hstep
     refine⟨_,wrap_i64 (by omega) (by omega),?_⟩
     exact⟨(k+1,cur++[Iss.mk 2 ((l.map De.cells).length:Nat) x.name]),⟨by show k+1≤drs.length;omega,by rw [← k2];rw [hstep,List.append_assoc] <;> rfl⟩,ent_of [] [(1,3)] [] rfl ⟨rfl,rfl,⟨rfl,rfl⟩,congrArg (fun j:Nat=>AV.sl 3 3 0 j) (snoc_len cur _).symm,rfl,rfl,trivial⟩ (sk) rfl,by show drs.length - (k+1)<drs.length - k;omega⟩
theorem rone_1 (l:List De) (dn:Int) (dnm dpl:List UInt8) (drs:List Rf) (dcs:List Cs) (g:Int):Pure cx 89 [des l,(De.mk 1 dn dnm dpl drs dcs).pv,i64 g] (·=.ret [isl (oneI l ⟨1,dn,dnm,dpl,drs,dcs⟩ g)]):=by
 have hm:(l.map De.cells).length=l.length:=List.length_map ..
 obtain⟨R,hR⟩:∃ R,R=oneI l ⟨1,dn,dnm,dpl,drs,dcs⟩ g:=⟨_,rfl⟩
 rw [← hR]
 rw [oneI,if_pos rfl] at hR
 try simp only [] at hR
 refine pure_of_vc Tryz.func89 rfl rfl rfl ?_
 refine And.intro (fun _=>?_) (fun h=>absurd rfl h)
 (first | refine brLt (fun h0=>?_) (fun h0=>?_) | refine brLe (fun h0=>?_) (fun h0=>?_) | refine brEq (fun h0=>?_) (fun h0=>?_))
 ·have h0:(0:Int)<((l.map De.cells).length:Nat):=h0
  rw [hm] at h0
  rw [if_pos (.inl (by omega))] at hR
  refine⟨by show 0+1≤1;omega,[Iss.cells (Iss.mk 1 ((l.map De.cells).length:Nat) [])],rfl,?_⟩
  refine⟨by show 1 * 32≤140737488355328;decide,?_⟩
  exact end1 (isl [Iss.mk 1 ((l.map De.cells).length:Nat) []]) rfl ⟨_,rfl,by show 0+1≤1;decide,rfl⟩ (by rw [hR,hm])
 have h0:¬ (0:Int)<((l.map De.cells).length:Nat):=h0
 rw [hm] at h0
 (first | refine brLt (fun h1=>?_) (fun h1=>?_) | refine brLe (fun h1=>?_) (fun h1=>?_) | refine brEq (fun h1=>?_) (fun h1=>?_))
 ·have h1:dn<1:=h1
  rw [if_pos (.inr (.inl h1))] at hR
  refine⟨by show 0+1≤1;omega,[Iss.cells (Iss.mk 1 ((l.map De.cells).length:Nat) [])],rfl,?_⟩
  refine⟨by show 1 * 32≤140737488355328;decide,?_⟩
  exact end1 (isl [Iss.mk 1 ((l.map De.cells).length:Nat) []]) rfl ⟨_,rfl,by show 0+1≤1;decide,rfl⟩ (by rw [hR,hm])
 have h1:¬ dn<1:=h1
 (first | refine brLt (fun h2=>?_) (fun h2=>?_) | refine brLe (fun h2=>?_) (fun h2=>?_) | refine brEq (fun h2=>?_) (fun h2=>?_))
 ·have h2:60<dn:=h2
  rw [if_pos (.inr (.inr h2))] at hR
  refine⟨by show 0+1≤1;omega,[Iss.cells (Iss.mk 1 ((l.map De.cells).length:Nat) [])],rfl,?_⟩
  refine⟨by show 1 * 32≤140737488355328;decide,?_⟩
  exact end1 (isl [Iss.mk 1 ((l.map De.cells).length:Nat) []]) rfl ⟨_,rfl,by show 0+1≤1;decide,rfl⟩ (by rw [hR,hm])
 ·have h2:¬ 60<dn:=h2
  rw [if_neg (by omega)] at hR
  exact end1 (isl []) rfl (.inr (.inr ⟨3,rfl⟩)) (by rw [hR])
structure DcZ (d:De):Prop where
 two:d.kind=2→d.refs=[]∧d.cases=[]
 four:d.kind=4→d.cases=[]
theorem declB_z {d:De} (h:declB d=true):DcZ d:=by
 simp only [declB,Bool.and_eq_true] at h
 have h4:=h.2
 unfold kindB at h4
 refine⟨fun k=>?_,fun k=>?_⟩
 ·rw [if_neg (by omega),if_pos k] at h4
  simp only [Bool.and_eq_true,decide_eq_true_eq] at h4
  exact⟨List.eq_nil_of_length_eq_zero h4.1.2,List.eq_nil_of_length_eq_zero h4.2⟩
 ·rw [if_neg (by omega),if_neg (by omega),if_neg (by omega),if_pos k] at h4
  simp only [Bool.and_eq_true,decide_eq_true_eq] at h4
  exact List.eq_nil_of_length_eq_zero h4.2
theorem one_eq {l:List De} {d:De} {g:Int} (hk:¬ d.kind=1) (_ho:OkD d) (hz:DcZ d):oneI l d g=preI l d++(refsI l d [] d.refs++casesI l d g d.cases):=by
 rw [oneI,preI,if_neg hk]
 by_cases k2:d.kind=2
 ·rw [if_pos k2,if_pos k2,(hz.two k2).1,(hz.two k2).2,refsI,sizeI]
  show _=_++([]++[])
  rw [List.append_nil,List.append_nil]
 rw [if_neg k2,if_neg k2]
 by_cases k3:d.kind=3
 ·rw [if_pos k3,if_pos k3,List.append_assoc,List.append_assoc]
 rw [if_neg k3,if_neg k3]
 by_cases k4:d.kind=4
 ·rw [if_pos k4,if_pos k4,hz.four k4,List.append_assoc]
  show _=_++(_++(_++[]))
  rw [List.append_nil]
 ·rw [if_neg k4,if_neg k4];rfl
theorem rone_c (l:List De) (d:De) (g:Int) (hd:DcV d) (hz:DcZ d) (hl:l.length≤1000) (hok:∀ d∈l,OkD d):Pure cx 89 [des l,d.pv,i64 g] (·=.ret [isl (oneI l d g)]):=by
 obtain⟨dk,dn,dnm,dpl,drs,dcs⟩:=d
 have hkind:=hd.ok.ok.kind
 have he:=fun hk=>one_eq (l:=l) (g:=g) (d:=⟨dk,dn,dnm,dpl,drs,dcs⟩) hk hd.ok.ok hz
 rcases hkind with h | h | h | h | h
 ·have h:dk=1:=h
  subst h
  exact rone_1 l dn dnm dpl drs dcs g
 ·have h:dk=2:=h
  subst h
  rw [he (show ¬ (2:Int)=1 by decide)]
  exact rone_2 l dn dnm dpl drs dcs g hd hl hok
 ·have h:dk=3:=h
  subst h
  rw [he (show ¬ (3:Int)=1 by decide)]
  exact rone_3 l dn dnm dpl drs dcs g hd hl hok
 ·have h:dk=4:=h
  subst h
  rw [he (show ¬ (4:Int)=1 by decide)]
  exact rone_4 l dn dnm dpl drs dcs g hd hl hok
 ·have h:dk=5:=h
  subst h
  rw [he (show ¬ (5:Int)=1 by decide)]
  exact rone_5 l dn dnm dpl drs dcs g hd hl hok
end Go.Proofs.YtkegmchjobphdaaGreatDoor
