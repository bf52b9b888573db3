/- GroundFinds: the row and the card. Find returns what the reference's does,in what Make returns and in arbitrary values. Conditions: those of the card. -/
import Derived.ChangeArms
import Derived.OpenShut
import Derived.WideHanded
import Derived.ChangeSame
import Derived.ProofKit
import Derived.LaidMore
import Derived.LaidLaws
import Derived.Stop.Joined
import Derived.MakeChecks
import Derived.Test.YtkegmchjobphdaaGreatDoorRows
import Derived.Lay
import Derived.Test.YtkegmchjobphdaaGreatDoorCards
import Derived.Test.YtkegmchjobphdaaGreatDoorTie
import Derived.SevenTiedAt
import Derived.Test.YtkegmchjobphdaaGreatDoorQ7
namespace Go.Proofs.YtkegmchjobphdaaGreatDoor
open Go Y
set_option maxRecDepth 100000
set_option maxHeartbeats 40000000
abbrev rawGr (ns:List (List UInt8)) (a:Int) (N:List (List PV)) (dd:Int) (U:List (List PV)):List PV:=[strs ns,i64 a, .lsts 3 N, .int .u64 dd, .lsts 2 U]
def rgO (ns:List (List UInt8)) (a:Int) (N:List (List PV)) (dd:Int) (U:List (List PV)):AObj:=⟨TGr,false, .bx ((rawGr ns a N dd U).map .p)⟩
theorem gfindR_c (ns:List (List UInt8)) (a:Int) (N:List (List PV)) (dd:Int) (U:List (List PV)) (nm:List UInt8) (hl:ns.length≤1000):Pure cx 21 [.agg (rawGr ns a N dd U), .str nm] (·=.ret (findV ns nm)):=by
 have hm:(ns.map PV.str).length=ns.length:=List.length_map ..
 obtain⟨R,hR⟩:∃ R,R=findV ns nm:=⟨_,rfl⟩
 rw [← hR]
 refine pure_of_vc Tryz.func21 rfl rfl rfl ?_
 refine⟨Nat,fun k=>[(1, .p (.str nm)),(2, .ptr 0 0 0),(6, .p (i64 k))],fun _=>⟨1,[(0,rgO ns a N dd U)]⟩,fun k=>k≤ns.length∧R=(match fndG (ns.drop k) nm k with | some k=>[i64 (k:Nat),i64 0] | none=>[i64 0,i64 4]),fun k=>ns.length - k,?_,?_⟩
 ·exact⟨0,⟨Nat.zero_le _,hR⟩,ent_of [] [] [] rfl (sk) (sk) rfl⟩
 rintro k ⟨k1,k2⟩
 (first | refine brLt (fun m1=>?_) (fun m1=>?_) | refine brLe (fun m1=>?_) (fun m1=>?_) | refine brEq (fun m1=>?_) (fun m1=>?_))
 rotate_left
 ·have m1:¬ (k:Int)<((ns.map PV.str).length:Nat):=m1
  rw [hm] at m1
  rw [List.drop_eq_nil_of_le (by omega),fndG] at k2
  exact end2 (i64 0) (i64 4) rfl rfl rfl (by rw [k2])
 have m1:(k:Int)<((ns.map PV.str).length:Nat):=m1
 rw [hm] at m1
 have hk:k<ns.length:=by omega
 have hcell:=scellG hk
 rw [dropD [] hk,fndG] at k2
 generalize ns.getD k []=x at hcell k2
 refine⟨_,⟨by omega,_,hcell,rfl⟩,?_⟩
 (first | refine brLt (fun e1=>?_) (fun e1=>?_) | refine brLe (fun e1=>?_) (fun e1=>?_) | refine brEq (fun e1=>?_) (fun e1=>?_))
 ·have e1:x=nm:=e1
  rw [if_pos e1] at k2
  exact end2 (i64 (k:Nat)) (i64 0) rfl rfl rfl (by rw [k2])
 ·have e1:¬ x=nm:=e1
  rw [if_neg e1] at k2
  refine⟨_,wrap_i64 (by omega) (by omega),?_⟩
  exact⟨k+1,⟨by omega,k2⟩,ent_of [] [] [] rfl (sk) (sk) rfl,by show ns.length - (k+1)<ns.length - k;omega⟩
theorem findR_c (ns:List (List UInt8)) (a:Int) (N:List (List PV)) (dd:Int) (U:List (List PV)) (nm:List UInt8) (hl:ns.length≤1000):Pure cx 20 [.agg (rawGr ns a N dd U), .str nm] (·=.ret (findV ns nm)):=by
 have hm:(ns.map PV.str).length=ns.length:=List.length_map ..
 obtain⟨R,hR⟩:∃ R,R=findV ns nm:=⟨_,rfl⟩
 rw [← hR]
 refine pure_of_vc Tryz.func20 rfl rfl rfl ?_
 refine⟨Nat,fun k=>[(1, .p (.str nm)),(9, .p (strs ns)),(10, .p (i64 ns.length)),(11, .p (i64 k))],fun _=>⟨0,[]⟩,fun k=>k≤ns.length∧R=(match fndG (ns.drop k) nm k with | some k=>[i64 (k:Nat),i64 0] | none=>[i64 0,i64 4]),fun k=>ns.length - k,?_,?_⟩
 ·exact⟨0,⟨Nat.zero_le _,hR⟩,ent_of [] [] [] rfl ⟨rfl,rfl,congrArg (fun n:Nat=>i64 n) hm.symm,rfl,trivial⟩ (sk) rfl⟩
 rintro k ⟨k1,k2⟩
 (first | refine brLt (fun m1=>?_) (fun m1=>?_) | refine brLe (fun m1=>?_) (fun m1=>?_) | refine brEq (fun m1=>?_) (fun m1=>?_))
 rotate_left
 ·have m1:¬ (k:Int)<(ns.length:Nat):=m1
  rw [List.drop_eq_nil_of_le (by omega),fndG] at k2
  exact end2 (i64 0) (i64 4) rfl rfl rfl (by rw [k2])
 have m1:(k:Int)<(ns.length:Nat):=m1
 have hk:k<ns.length:=by omega
 have hcell:=scellG hk
 rw [dropD [] hk,fndG] at k2
 generalize ns.getD k []=x at hcell k2
 refine⟨_,⟨by omega,_,hcell,rfl⟩,?_⟩
 (first | refine brLt (fun e1=>?_) (fun e1=>?_) | refine brLe (fun e1=>?_) (fun e1=>?_) | refine brEq (fun e1=>?_) (fun e1=>?_))
 ·have e1:x=nm:=e1
  rw [if_pos e1] at k2
  exact end2 (i64 (k:Nat)) (i64 0) rfl rfl rfl (by rw [k2])
 ·have e1:¬ x=nm:=e1
  rw [if_neg e1] at k2
  refine⟨_,wrap_i64 (by omega) (by omega),?_⟩
  exact⟨k+1,⟨by omega,k2⟩,ent_of [] [] [] rfl (sk) (sk) rfl,by show ns.length - (k+1)<ns.length - k;omega⟩
theorem findV_form (ns:List (List UInt8)) (nm:List UInt8):∃ a b:Int,findV ns nm=[i64 a,i64 b]:=by
 unfold findV
 split
 ·exact⟨_,_,rfl⟩
 ·exact⟨_,_,rfl⟩
abbrev otNu8:OT:=(.pure 0 (.pure 1 (.pure 2 (.pure 3 (.pure 4 (.pure 5 (.pure 6 (.pure 7 (.pure 8 (.pure 9 (.pure 10 (.pure 11 (.eff 12 [] (.pure 13 .fin) .nil)))))))))))))
theorem ldIn5 {P:Program} {t:TypeId} {cs vs:List PV} {f:Nat} (h:aggSz P t=some (some 5)) (hv:getN cs f 5=some vs):ldInP P t cs f=some (.agg vs):=by
 unfold ldInP
 rw [h]
 simp only [hv]
theorem sub_pre' {α:Type} {xs:List α} {m:Int}:sub xs none (some m)=xs.take m.toNat:=by
 rw [sub_eq]
 show(xs.drop 0).take (Int.toNat m - 0)=_
 rw [List.drop_zero]
 congr 1
theorem groundFinds_c (d:Dp) (ns0:List (List UInt8)) (a1:Int) (N1:List (List PV)) (d1:Int) (U1:List (List PV)) (at':UInt8) (nm:List UInt8) (hd:d.ok):Pure cx 4 [.agg d.cells, .agg (rawGr ns0 a1 N1 d1 U1),u8 at', .str nm] (·=.ret [.bool true]):=by
 refine pure_of_vc Tryz.func4 rfl rfl rfl ?_
 have hm0:(0:Int)≤(if 10<((ns0.map PV.str).length:Int) then 10 else((ns0.map PV.str).length:Int)):=by split <;> omega
 have hmn:(if 10<((ns0.map PV.str).length:Int) then 10 else((ns0.map PV.str).length:Int))≤((ns0.map PV.str).length:Nat):=by split <;> omega
 have hn0:(0:Int)≤(if 20<(nm.length:Int) then 20 else(nm.length:Int)):=by split <;> omega
 have hn1:(if 20<(nm.length:Int) then 20 else(nm.length:Int))≤(nm.length:Nat):=by split <;> omega
 obtain⟨ns1,hns1⟩:∃ x,x=ns0.take (if 10<((ns0.map PV.str).length:Int) then 10 else((ns0.map PV.str).length:Int)).toNat:=⟨_,rfl⟩
 have hsub:sub (ns0.map PV.str) none (some (if 10<((ns0.map PV.str).length:Int) then 10 else((ns0.map PV.str).length:Int)))=ns1.map PV.str:=by rw [hns1,sub_pre',List.map_take]
 have hl1:ns1.length≤10:=by
  rw [hns1,List.length_take]
  have:(if 10<((ns0.map PV.str).length:Int) then 10 else((ns0.map PV.str).length:Int))≤10:=by split <;> omega
  omega
 clear hns1
 refine⟨⟨hm0,hmn⟩,?_⟩
 refine(program_c2 _ hd).at fun r hr=>?_
 obtain⟨p,rfl,hp,hpl⟩:=hr
 obtain⟨g,e,hme,hgz,hl2⟩:=make_form8 p
 have hM:=rmake_c p hp.big
 rw [hme] at hM
 obtain⟨ns2,a2,N2',d2,U2'⟩:=g
 have hl2:ns2.length≤8:=hl2
 obtain⟨N2,hN2⟩:∃ x,x=N2'.map Nd.cells:=⟨_,rfl⟩
 obtain⟨U2,hU2⟩:∃ x,x=U2'.map Ut.cells:=⟨_,rfl⟩
 have hcl:Gr.cells ⟨ns2,a2,N2',d2,U2'⟩=rawGr ns2 a2 N2 d2 U2:=by rw [hN2,hU2]
 rw [hcl] at hM
 clear hN2 hU2 hcl hme hgz
 refine hM.eq rfl ?_
 have hsel:∀ k:Nat,k<2→∃ ns a N dd U,ns.length≤10∧getN (rawGr ns1 a1 N1 d1 U1++rawGr ns2 a2 N2 d2 U2) (((k:Nat):Int).toNat * 5) 5=some (rawGr ns a N dd U):=fun k hk=>by
  obtain rfl | rfl:k=0∨k=1:=by omega
  ·exact⟨ns1,a1,N1,d1,U1,hl1,rfl⟩
  ·exact⟨ns2,a2,N2,d2,U2,by omega,rfl⟩
 refine⟨Nat,fun k=>[(2, .p (u8 at')),(3, .p (.str nm)),(36, .p (.agg (rawGr ns1 a1 N1 d1 U1++rawGr ns2 a2 N2 d2 U2))),(37, .p (i64 (k:Nat)))],fun _=>⟨0,[]⟩,fun k=>k≤2,fun k=>2 - k,?_,?_⟩
 ·refine⟨0,Nat.zero_le _,ent_of [] [] [] rfl ⟨rfl,rfl,?_,rfl,trivial⟩ trivial rfl⟩
  show PV.agg (rawGr ns1 a1 N1 d1 U1++rawGr ns2 a2 N2 d2 U2)=PV.agg (.lst (sub (ns0.map PV.str) none (some _))::_)
  rw [hsub];rfl
 intro k hk
 (first | refine brLt (fun h1=>?_) (fun h1=>?_) | refine brLe (fun h1=>?_) (fun h1=>?_) | refine brEq (fun h1=>?_) (fun h1=>?_))
 rotate_left
 ·refine works40_c.eq rfl ?_
  exact end1 _ rfl rfl rfl
 have h1:(k:Int)<2:=h1
 obtain⟨ns,a,N,dd,U,hl,hg⟩:=hsel k (by omega)
 refine⟨_,⟨⟨by omega,by omega⟩, .agg (rawGr ns a N dd U),ldIn5 (by kernel_rfl) hg,rfl⟩,?_⟩
 refine⟨⟨hn0,hn1⟩,?_⟩
 obtain⟨nm',hnm'⟩:∃ x,x=sub nm none (some (if 20<(nm.length:Int) then 20 else(nm.length:Int))):=⟨_,rfl⟩
 refine And.intro (fun p1=>?_) (fun p1=>?_)
 ·have p1:(0:Int)<((ns.map PV.str).length:Nat):=p1
  rw [List.length_map] at p1
  obtain⟨q,hq⟩:∃ q,q=at'.toNat % ns.length:=⟨_,rfl⟩
  have hql:q<ns.length:=by rw [hq];exact Nat.mod_lt _ (by omega)
  have hmod:((at'.toNat:Nat):Int).tmod (((ns.map PV.str).length:Nat):Int)=((q:Nat):Int):=by rw [List.length_map,hq];rfl
  have hcq:=scellG hql
  refine vdraw_ot otNu8 (by kernel_rfl) ?_
  refine⟨((at'.toNat:Nat):Int),wrap_i64 (by omega) (by have:=at'.toNat_lt;omega),?_⟩
  refine⟨by show ¬ (((ns.map PV.str).length:Nat):Int)=0;rw [List.length_map];omega,?_⟩
  refine⟨_,⟨by rw [hmod];omega,_,by rw [hmod];exact hcq,rfl⟩,?_⟩
  obtain⟨qs,hqs⟩:∃ qs:List (List UInt8),qs=[nm',[],[97,91,48,93],[98],ns.getD q []]:=⟨_,rfl⟩
  refine⟨by show 0+4≤4;omega,[.str nm', .str [], .str [97,91,48,93], .str [98]],by rw [hnm'];rfl,by show(4+1) * 16≤140737488355328;omega,[.str nm', .str [], .str [97,91,48,93], .str [98], .str (ns.getD q [])],rfl,?_⟩
  have hqn:qs.length≤5:=by rw [hqs];simp
  refine⟨Nat,fun j=>[(2, .p (u8 at')),(3, .p (.str nm)),(12, .ptr 0 0 0),(36, .p (.agg (rawGr ns1 a1 N1 d1 U1++rawGr ns2 a2 N2 d2 U2))),(37, .p (i64 (k:Nat))),(63, .p (strs qs)),(64, .p (i64 qs.length)),(65, .p (i64 j))],fun _=>⟨1,[(0,rgO ns a N dd U)]⟩,fun j=>j≤qs.length,fun j=>qs.length - j,?_,?_⟩
  rotate_left
  ·clear hqs
   rintro j j1
   (first | refine brLt (fun o1=>?_) (fun o1=>?_) | refine brLe (fun o1=>?_) (fun o1=>?_) | refine brEq (fun o1=>?_) (fun o1=>?_))
   ·have o1:(j:Int)<(qs.length:Nat):=o1
    have hj:j<qs.length:=by omega
    have hcj:=scellG hj
    generalize qs.getD j []=s at hcj
    obtain⟨v1,v2,hv⟩:=findV_form ns s
    have hA:=findR_c ns a N dd U s (by omega)
    have hB:=gfindR_c ns a N dd U s (by omega)
    rw [hv] at hA hB
    refine⟨_,⟨by omega,_,hcj,rfl⟩,?_⟩
    refine hA.eq rfl ?_
    refine hB.eq rfl ?_
    refine And.intro (fun _=>?_) (fun h=>absurd rfl h)
    refine And.intro (fun _=>?_) (fun h=>absurd rfl h)
    refine⟨_,wrap_i64 (by omega) (by omega),?_⟩
    exact⟨j+1,by show j+1≤qs.length;omega,ent_of [] [] [] rfl (sk) (sk) rfl,by show qs.length - (j+1)<qs.length - j;omega⟩
   have o1:¬ (j:Int)<(qs.length:Nat):=o1
   refine⟨_,wrap_i64 (by omega) (by omega),?_⟩
   exact⟨k+1,by show k+1≤2;omega,ent_of [] [] [] rfl (sk) trivial rfl,by show 2 - (k+1)<2 - k;omega⟩
  refine⟨0,Nat.zero_le _,ent_of [2] [] [] rfl ⟨rfl,rfl,⟨rfl,rfl⟩,rfl,rfl,⟨_,rfl,(by show 0+5≤5;omega),by rw [hqs,hnm'];rfl⟩,by rw [hqs];rfl,rfl,trivial⟩ (sk) rfl⟩
 ·obtain⟨qs,hqs⟩:∃ qs:List (List UInt8),qs=[nm',[],[97,91,48,93],[98]]:=⟨_,rfl⟩
  have hqn:qs.length≤5:=by rw [hqs];simp
  refine⟨Nat,fun j=>[(2, .p (u8 at')),(3, .p (.str nm)),(12, .ptr 0 0 0),(36, .p (.agg (rawGr ns1 a1 N1 d1 U1++rawGr ns2 a2 N2 d2 U2))),(37, .p (i64 (k:Nat))),(63, .p (strs qs)),(64, .p (i64 qs.length)),(65, .p (i64 j))],fun _=>⟨1,[(0,rgO ns a N dd U)]⟩,fun j=>j≤qs.length,fun j=>qs.length - j,?_,?_⟩
  rotate_left
  ·clear hqs
   rintro j j1
   (first | refine brLt (fun o1=>?_) (fun o1=>?_) | refine brLe (fun o1=>?_) (fun o1=>?_) | refine brEq (fun o1=>?_) (fun o1=>?_))
   ·have o1:(j:Int)<(qs.length:Nat):=o1
    have hj:j<qs.length:=by omega
    have hcj:=scellG hj
    generalize qs.getD j []=s at hcj
    obtain⟨v1,v2,hv⟩:=findV_form ns s
    have hA:=findR_c ns a N dd U s (by omega)
    have hB:=gfindR_c ns a N dd U s (by omega)
    rw [hv] at hA hB
    refine⟨_,⟨by omega,_,hcj,rfl⟩,?_⟩
    refine hA.eq rfl ?_
    refine hB.eq rfl ?_
    refine And.intro (fun _=>?_) (fun h=>absurd rfl h)
    refine And.intro (fun _=>?_) (fun h=>absurd rfl h)
    refine⟨_,wrap_i64 (by omega) (by omega),?_⟩
    exact⟨j+1,by show j+1≤qs.length;omega,ent_of [] [] [] rfl (sk) (sk) rfl,by show qs.length - (j+1)<qs.length - j;omega⟩
   have o1:¬ (j:Int)<(qs.length:Nat):=o1
   refine⟨_,wrap_i64 (by omega) (by omega),?_⟩
   exact⟨k+1,by show k+1≤2;omega,ent_of [] [] [] rfl (sk) trivial rfl,by show 2 - (k+1)<2 - k;omega⟩
  refine⟨0,Nat.zero_le _,ent_of [1] [] [] rfl ⟨rfl,rfl,⟨rfl,rfl⟩,rfl,rfl,⟨_,rfl,(by show 0+4≤4;omega),by rw [hqs,hnm'];rfl⟩,by rw [hqs];rfl,rfl,trivial⟩ (sk) rfl⟩
end Go.Proofs.YtkegmchjobphdaaGreatDoor
namespace Go.Proofs.YtkegmchjobphdaaGreatDoor.Y
open Go
def partsOf (P:Program) (t:TypeId):Option (List (TypeId × Nat)):=
 match P.underlying t with
 | some (.struct fs)=>some (fs.toList.map fun f=>(f.type,f.offset))
 | some (.array k e)=>some ((List.range k).map fun i=>(e,i * P.cellsOf e))
 | _=>none
def tiles (P:Program):List (TypeId × Nat)→Nat→Option Nat
 | [],o=>some o
 | f::r,o=>if f.2=o then tiles P r (o+P.cellsOf f.1) else none
theorem tiles_le {P:Program}:∀ {l:List (TypeId × Nat)} {o n:Nat},tiles P l o=some n→o≤n
 | [],o,n,h=>by simp only [tiles,Option.some.injEq] at h;omega
 | f::r,o,n,h=>by
  simp only [tiles] at h
  split at h
  ·have:=tiles_le h;omega
  ·cases h
def basic:TypeDesc→Bool
 | .bool=>true
 | .int _=>true
 | .string=>true
 | _=>false
def supp (P:Program):Nat→TypeId→Bool
 | 0,_=>false
 | n+1,t=>match partsOf P t with
  | some l=>decide (tiles P l 0=some (P.cellsOf t)) && l.all fun f=>supp P n f.1
  | none=>match P.underlying t with
   | some (.slice e)=>decide (0<P.cellsOf e) && supp P n e
   | some d=>basic d
   | none=>false
def Flds (P:Program) (p:TypeId→List PV→Prop):List (TypeId × Nat)→List PV→Prop
 | [],xs=>xs=[]
 | f::r,xs=>∃ ys zs,xs=ys++zs∧ys.length=P.cellsOf f.1∧p f.1 ys∧Flds P p r zs
def TyT (P:Program):Nat→TypeId→List PV→Prop
 | 0,_,_=>False
 | m+1,t,xs=>match partsOf P t with
  | some l=>Flds P (TyT P m) l xs
  | none=>match P.underlying t with
   | some .bool=>∃ b,xs=[.bool b]
   | some (.int k)=>∃ n,xs=[.int k n]∧(Lit.int k n).wf=true
   | some .string=>∃ s,xs=[.str s]∧s.length≤maxLen
   | some (.slice e)=>match Nat.beq (P.cellsOf e) 1 with
    | true=>∃ ys,xs=[.lst ys]∧ys.length≤maxLen∧∀ y∈ys,TyT P m e [y]
    | false=>∃ yss,xs=[.lsts (P.cellsOf e) yss]∧yss.length≤maxLen∧∀ ys∈yss,TyT P m e ys
   | _=>False
section
variable {H:Type} {enc:TypeId × Value→H} {P:Program} {W:World} {sp:Nat→Bool} {held:Bool}
theorem cells_take {a:Addr} {n:Nat} {cs:List Value} (hn:0<n) (h:W.cells? 0 a n=some cs) :
  ∃ c t z,W.heap[a.block]?=some (.cells c t z)∧a.spot=none∧cs.length=n∧a.off+n≤c.toList.length∧cs=(c.toList.drop a.off).take n:=by
 unfold World.cells? at h
 rw [if_pos (Nat.zero_le _)] at h
 have hl:=mapM_some_length h
 rw [List.length_range] at hl
 have hg:∀ i,i<n→W.cell? (a.add i)=cs[i]?:=fun i hi=>mapM_some_get h i i (by simp [hi])
 have h0:=hg 0 hn
 have ha:a.add 0=a:=by simp [Addr.add]
 rw [ha,List.getElem?_eq_getElem (by omega)] at h0
 unfold World.cell? at h0
 split at h0
 ·rename_i c t z hb
  have hs:a.spot=none:=by
   cases hs:a.spot with
   | none=>rfl
   | some _=>simp [hs] at h0
  have hcell:∀ i,i<n→c[a.off+i]?=cs[i]?:=by
   intro i hi
   have:=hg i hi
   unfold World.cell? at this
   have hblk:(a.add i).block=a.block:=by unfold Addr.add;split <;> rfl
   have hsp:(a.add i).spot=none:=by unfold Addr.add;split <;> first | exact hs | rfl
   have hoff:(a.add i).off=a.off+i:=by unfold Addr.add;split <;> simp_all
   rw [hblk,hb] at this
   simp only [hsp,hoff] at this
   simpa using this
  have hlen:a.off+n≤c.toList.length:=by
   have:=hcell (n - 1) (by omega)
   rw [List.getElem?_eq_getElem (by omega)] at this
   have:=(Array.getElem?_eq_some_iff.1 this).1
   simp
   omega
  refine⟨c,t,z,hb,hs,hl,hlen,?_⟩
  refine List.ext_getElem? fun i=>?_
  by_cases hi:i<n
  ·rw [← hcell i hi,List.getElem?_take_of_lt hi,List.getElem?_drop]
   simp
  ·rw [List.getElem?_eq_none (by omega),List.getElem?_eq_none (by simp;omega)]
 ·cases h0
def AllCells (fz:Fzn) (W:World):Prop:=∀ b c t z,W.heap[b]?=some (.cells c t z)→fz b=some c.toList
def Rd (P:Program) (fz:Fzn) (m:Nat) (t:TypeId) (cs:List Value):Prop:=∃ xs,VPL fz xs cs∧(∀ u∈cs,plainV u=true)∧TyT P m t xs
theorem flds_of {fz:Fzn} {m:Nat} {cs:List Value}:∀ (l:List (TypeId × Nat)) (o:Nat),tiles P l o=some cs.length→(∀ f∈l,Rd P fz m f.1 ((cs.drop f.2).take (P.cellsOf f.1))) →
  ∃ xs,VPL fz xs (cs.drop o)∧(∀ u∈cs.drop o,plainV u=true)∧Flds P (TyT P m) l xs
 | [],o,ht,_=>by
  simp only [tiles,Option.some.injEq] at ht
  subst ht
  exact⟨[],by simp [VPL],by simp,rfl⟩
 | f::r,o,ht,hr=>by
  simp only [tiles] at ht
  split at ht
  ·rename_i ho
   have hle:=tiles_le ht
   obtain⟨ys,h1,h2,h3⟩:=hr f (by simp)
   obtain⟨zs,k1,k2,k3⟩:=flds_of r (o+P.cellsOf f.1) ht fun g hg=>hr g (by simp [hg])
   rw [ho] at h1 h2
   have e:cs.drop o=(cs.drop o).take (P.cellsOf f.1)++cs.drop (o+P.cellsOf f.1):=by
    rw [← List.drop_drop,List.take_append_drop]
   refine⟨ys++zs,?_,?_,ys,zs,rfl,?_,h3,k3⟩
   ·rw [e];exact VPL_append h1 k1
   ·rw [e];intro u hu;rcases List.mem_append.1 hu with hu | hu
    ·exact h2 u hu
    ·exact k2 u hu
   ·rw [← VPL_length h1,List.length_take,List.length_drop];omega
  ·cases ht
theorem parts_trod {t:TypeId} {l:List (TypeId × Nat)} (hp:partsOf P t=some l) {n:Nat} {cs:List Value} {x:DataW H × List MemPlace} (h:DataW.trod enc P W 0 sp held n t cs=some x) :
  ∃ (xs:List (DataW H × List MemPlace)) (k:Nat),n=k+1∧x=(.agg (xs.map (·.1)),xs.flatMap (·.2))∧cs.length=P.cellsOf t∧xs.length=l.length ∧
   ∀ (i:Nat) (f:TypeId × Nat),l[i]?=some f→DataW.trod enc P W 0 sp held k f.1 ((cs.drop f.2).take (P.cellsOf f.1))=xs[i]?:=by
 unfold partsOf at hp
 split at hp
 ·rename_i fs hu
  injection hp with hp
  subst hp
  obtain⟨xs,k,h1,h2,h3,h4,h5⟩:=DataW.trod_struct hu h
  refine⟨xs,k,h1,h2,h3,by simpa using h4,fun i f hf=>?_⟩
  rw [List.getElem?_map,Option.map_eq_some_iff] at hf
  obtain⟨g,hg,rfl⟩:=hf
  exact h5 i g (by simpa using hg)
 ·rename_i k' e hu
  injection hp with hp
  subst hp
  obtain⟨xs,k,h1,h2,h3,h4,h5⟩:=DataW.trod_array hu h
  refine⟨xs,k,h1,h2,h3,by simpa using h4,fun i f hf=>?_⟩
  rw [List.getElem?_map,Option.map_eq_some_iff] at hf
  obtain⟨j,hj,rfl⟩:=hf
  have hi:=(List.getElem?_eq_some_iff.1 hj)
  obtain⟨hi,hj⟩:=hi
  simp at hi hj
  subst hj
  exact h5 i hi
 ·cases hp
theorem flat_singles {l:List (List PV)} (h:∀ cs∈l,cs.length=1):l.flatten.length=l.length∧∀ y∈l.flatten,[y]∈l:=by
 induction l with
 | nil=>simp
 | cons x r ih=>
  have hx:=h x (by simp)
  obtain⟨y,rfl⟩:∃ y,x=[y]:=by
   match x,hx with
   | [y],_=>exact⟨y,rfl⟩
  obtain⟨h1,h2⟩:=ih fun c hc=>h c (by simp [hc])
  refine⟨by simp [h1],fun z hz=>?_⟩
  simp at hz
  rcases hz with rfl | hz
  ·simp
  ·have:=h2 z (by simpa using hz)
   simp [this]
theorem typed_of_trod {fz:Fzn} (hfz:AllCells fz W):∀ (m:Nat) (t:TypeId) (n:Nat) (cs:List Value) (x:DataW H × List MemPlace),supp P m t=true→DataW.trod enc P W 0 sp held n t cs=some x→Rd P fz m t cs
 | 0,_,_,_,_,hs,_=>by simp [supp] at hs
 | m+1,t,n,cs,x,hs,h=>by
  have ih:=typed_of_trod hfz m
  simp only [supp] at hs
  cases hp:partsOf P t with
  | some l=>
   simp only [hp,Bool.and_eq_true,decide_eq_true_eq,List.all_eq_true] at hs
   obtain⟨xs,k,h1,h2,h3,h4,h5⟩:=parts_trod hp h
   obtain⟨ys,g1,g2,g3⟩:=flds_of (fz:=fz) (m:=m) (cs:=cs) l 0 (by rw [h3];exact hs.1) fun f hf=>by
    obtain⟨i,hi,rfl⟩:=List.getElem_of_mem hf
    have:=h5 i _ (List.getElem?_eq_getElem hi)
    rw [List.getElem?_eq_getElem (by omega)] at this
    exact ih _ _ _ _ (hs.2 _ hf) this
   exact⟨ys,by simpa using g1,by simpa using g2,by simp only [TyT,hp];exact g3⟩
  | none=>
   simp only [hp] at hs
   cases hu:P.underlying t with
   | none=>simp [hu] at hs
   | some d=>
    simp only [hu] at hs
    cases d with
    | bool=>
     obtain⟨b,rfl,_⟩:=DataW.trod_bool hu h
     exact⟨[.bool b],by simp [VPL,VP],by simp [plainV],by simp [TyT,hp,hu]⟩
    | int k=>
     obtain⟨b,rfl,_,hw⟩:=DataW.trod_int hu h
     exact⟨[.int k b],by simp [VPL,VP],by simp [plainV],by simp [TyT,hp,hu,hw]⟩
    | string=>
     obtain⟨⟨⟨s⟩⟩,rfl,_,hw⟩:=DataW.trod_string hu h
     exact⟨[.str s],by simp [VPL,VP],by simp [plainV],by simp only [TyT,hp,hu];exact⟨s,rfl,hw⟩⟩
    | slice e=>
     simp only [Bool.and_eq_true,decide_eq_true_eq] at hs
     obtain⟨hs0,hse⟩:=hs
     have fin:∀ (v:Value) (len:Nat) (yss:List (List PV)),len≤maxLen→yss.length=len→(∀ ys∈yss,ys.length=P.cellsOf e∧TyT P m e ys)→plainV v=true →
       (yss=[]→∃ a c,v=.slice a 0 c)→(yss ≠ []→∃ b o c arr us,v=.slice (some ⟨b,o,none⟩) len c∧len≤c∧fz b=some arr∧VPLL fz (P.cellsOf e) yss us∧Seg arr o us)→Rd P fz (m+1) t [v]:=by
      intro v len yss hml hlen hty hpl hnil hcons
      by_cases h1:P.cellsOf e=1
      ·have hfl:=flat_singles (l:=yss) fun c hc=>by rw [(hty c hc).1,h1]
       refine⟨[.lst yss.flatten],?_,by simpa using hpl,?_⟩
       ·simp only [VPL]
        refine⟨v,[],rfl,?_,rfl⟩
        simp only [VP]
        by_cases hy:yss=[]
        ·exact .inl ⟨by simp [hy],hnil hy⟩
        ·obtain⟨b,o,c,arr,us,k1,k2,k3,k4,k5⟩:=hcons hy
         exact .inr ⟨b,o,c,arr,us,by rw [hfl.1,hlen];exact k1,by rw [hfl.1,hlen];exact k2,k3,(VPLL_flat.1 k4).1,k5⟩
       ·simp only [TyT,hp,hu,h1]
        exact⟨_,rfl,by rw [hfl.1,hlen];exact hml,fun y hy=>(hty _ (hfl.2 y hy)).2⟩
      ·refine⟨[.lsts (P.cellsOf e) yss],?_,by simpa using hpl,?_⟩
       ·simp only [VPL]
        refine⟨v,[],rfl,?_,rfl⟩
        simp only [VP]
        by_cases hy:yss=[]
        ·exact .inl ⟨hy,hnil hy⟩
        ·obtain⟨b,o,c,arr,us,k1,k2,k3,k4,k5⟩:=hcons hy
         exact .inr ⟨b,o,c,arr,us,by rw [hlen];exact k1,by rw [hlen];exact k2,k3,k4,k5⟩
       ·have hb:Nat.beq (P.cellsOf e) 1=false:=beq_ne h1
        simp only [TyT,hp,hu,hb]
        exact⟨_,rfl,by rw [hlen];exact hml,fun y hy=>(hty _ hy).2⟩
     rcases DataW.trod_slice hu h with ⟨rfl,_⟩ | ⟨a,len,cap,elems,rest,n',rfl,rfl,_,_,hlc,hcm,hel,hE,_,_⟩
     ·exact fin _ 0 [] (by simp [maxLen]) rfl (by simp) rfl (fun _=>⟨none,0,rfl⟩) (by simp)
     ·have hcs:∀ i,i<len→∃ cs',W.cells? 0 (a.add (i * P.cellsOf e)) (P.cellsOf e)=some cs'∧Rd P fz m e cs':=by
       intro i hi
       have:=hE i hi
       rw [List.getElem?_eq_getElem (by omega),Option.bind_eq_some_iff] at this
       obtain⟨cs',h1,h2⟩:=this
       exact⟨cs',h1,ih _ _ _ _ hse h2⟩
      by_cases hl0:len=0
      ·subst hl0
       exact fin _ 0 [] (by simp [maxLen]) rfl (by simp) rfl (fun _=>⟨_,_,rfl⟩) (by simp)
      ·obtain⟨cs0,c1,_⟩:=hcs 0 (by omega)
       have ha:a.add (0 * P.cellsOf e)=a:=by simp [Addr.add]
       rw [ha] at c1
       obtain⟨c,tt,z,hb,hsp,_,_,_⟩:=cells_take hs0 c1
       have key:∀ k,k≤len→∃ yss us,yss.length=k∧VPLL fz (P.cellsOf e) yss us∧(∀ u∈us,plainV u=true)∧(∀ ys∈yss,ys.length=P.cellsOf e∧TyT P m e ys)∧(k ≠ 0→a.off+k * P.cellsOf e≤c.toList.length)∧us=(c.toList.drop a.off).take (k * P.cellsOf e):=by
        intro k
        induction k with
        | zero=>intro _;exact⟨[],[],rfl,by simp [VPLL],by simp,by simp,by simp,by simp⟩
        | succ k ihk=>
         intro hk
         obtain⟨yss,us,k1,k2,k3,k4,k5,k6⟩:=ihk (by omega)
         obtain⟨cs',d1,ys,d2,d3,d4⟩:=hcs k (by omega)
         obtain⟨c',tt',z',e1,e2,e3,e4,e5⟩:=cells_take hs0 d1
         have hblk:(a.add (k * P.cellsOf e)).block=a.block:=by unfold Addr.add;split <;> rfl
         have hoff:(a.add (k * P.cellsOf e)).off=a.off+k * P.cellsOf e:=by unfold Addr.add;split <;> simp_all
         rw [hblk,hb] at e1
         simp only [Option.some.injEq,Obj.cells.injEq] at e1
         obtain⟨rfl,_,_⟩:=e1
         rw [hoff] at e4 e5
         have hys:ys.length=P.cellsOf e:=by rw [← VPL_length d2,e3]
         have hf:=VPLL_flat.1 k2
         refine⟨yss++[ys],us++cs',by simp [k1],VPLL_flat.2 ⟨?_,?_⟩,?_,?_,fun _=>by rw [Nat.succ_mul];omega,?_⟩
         ·simpa using VPL_append hf.1 d2
         ·intro q hq;rcases List.mem_append.1 hq with hq | hq
          ·exact hf.2 q hq
          ·simp at hq;subst hq;exact hys
         ·intro u hu;rcases List.mem_append.1 hu with hu | hu
          ·exact k3 u hu
          ·exact d3 u hu
         ·intro q hq;rcases List.mem_append.1 hq with hq | hq
          ·exact k4 q hq
          ·simp at hq;subst hq;exact⟨hys,d4⟩
         ·rw [k6,e5,Nat.succ_mul,List.take_add,List.drop_drop]
       obtain⟨yss,us,k1,k2,k3,k4,k5,k6⟩:=key len (Nat.le_refl _)
       have k5:=k5 hl0
       have hne:yss ≠ []:=by intro e;subst e;simp at k1;omega
       refine fin _ len yss (by omega) k1 k4 rfl (fun e=>absurd e hne) fun _=>⟨a.block,a.off,cap,c.toList,us,?_,hlc,hfz _ _ _ _ hb,k2,?_⟩
       ·obtain⟨ab,ao,asp⟩:=a;simp only [] at hsp;subst hsp;rfl
       ·refine⟨c.toList.take a.off,c.toList.drop (a.off+len * P.cellsOf e),?_,?_,k3⟩
        ·rw [k6,List.append_assoc,← List.drop_drop,List.take_append_drop,List.take_append_drop]
        ·rw [List.length_take];omega
    | _=>simp [basic] at hs
mutual
def flatD:DataW H→Option (List PV)
 | .lit (.bool b)=>some [.bool b]
 | .lit (.int k n)=>some [.int k n]
 | .lit (.string s)=>some [.str s]
 | .agg ps=>flatDL ps
 | _=>none
def flatDL:List (DataW H)→Option (List PV)
 | []=>some []
 | d::r=>match flatD d,flatDL r with
  | some xs,some ys=>some (xs++ys)
  | _,_=>none
end
theorem fldsD_of {fz:Fzn} {cs:List Value} {Q:DataW H→List Value→Prop} (hQ:∀ d us xs,Q d us→flatD d=some xs→VPL fz xs us∧∀ u∈us,plainV u=true):∀ (l:List (TypeId × Nat)) (ds:List (DataW H)) (o:Nat) (xs:List PV),tiles P l o=some cs.length→ds.length=l.length →
  (∀ (i:Nat) f d,l[i]?=some f→ds[i]?=some d→Q d ((cs.drop f.2).take (P.cellsOf f.1)))→flatDL ds=some xs→VPL fz xs (cs.drop o)∧∀ u∈cs.drop o,plainV u=true
 | [],ds,o,xs,ht,hl,_,hd=>by
  simp only [tiles,Option.some.injEq] at ht
  subst ht
  obtain rfl:=List.eq_nil_of_length_eq_zero hl
  simp only [flatDL,Option.some.injEq] at hd
  subst hd
  simp [VPL]
 | f::r,[],o,xs,ht,hl,_,hd=>by simp at hl
 | f::r,d::ds,o,xs,ht,hl,hr,hd=>by
  simp only [tiles] at ht
  split at ht
  ·rename_i ho
   simp only [flatDL] at hd
   split at hd
   ·rename_i ys zs e1 e2
    injection hd with hd
    subst hd
    have h1:=hQ d _ ys (hr 0 f d rfl rfl) e1
    have h2:=fldsD_of hQ r ds (o+P.cellsOf f.1) zs ht (by simpa using hl) (fun i g e hg he=>hr (i+1) g e hg he) e2
    rw [ho] at h1
    have e:cs.drop o=(cs.drop o).take (P.cellsOf f.1)++cs.drop (o+P.cellsOf f.1):=by
     rw [← List.drop_drop,List.take_append_drop]
    rw [e]
    refine⟨VPL_append h1.1 h2.1,fun u hu=>?_⟩
    rcases List.mem_append.1 hu with hu | hu
    ·exact h1.2 u hu
    ·exact h2.2 u hu
   ·cases hd
  ·cases ht
theorem laid_of_trod {fz:Fzn}:∀ (m:Nat) (t:TypeId) (n:Nat) (cs:List Value) (x:DataW H × List MemPlace) (xs:List PV),supp P m t=true→DataW.trod enc P W 0 sp held n t cs=some x→flatD x.1=some xs→VPL fz xs cs∧∀ u∈cs,plainV u=true
 | 0,_,_,_,_,_,hs,_,_=>by simp [supp] at hs
 | m+1,t,n,cs,x,xs,hs,h,hd=>by
  have ih:=laid_of_trod (fz:=fz) m
  simp only [supp] at hs
  cases hp:partsOf P t with
  | some l=>
   simp only [hp,Bool.and_eq_true,decide_eq_true_eq,List.all_eq_true] at hs
   obtain⟨ys,k,h1,h2,h3,h4,h5⟩:=parts_trod hp h
   rw [h2] at hd
   simp only [flatD] at hd
   have:=fldsD_of (fz:=fz) (P:=P) (cs:=cs) (Q:=fun d us=>∀ xs,flatD d=some xs→VPL fz xs us∧∀ u∈us,plainV u=true) (fun d us xs hq hx=>hq xs hx) l (ys.map (·.1)) 0 xs (by rw [h3];exact hs.1) (by simpa using h4) (fun i f d hf hd'=>by
    rw [List.getElem?_map,Option.map_eq_some_iff] at hd'
    obtain⟨y,hy,rfl⟩:=hd'
    have e:=h5 i f hf
    rw [hy] at e
    intro xs hx
    exact ih _ _ _ _ xs (hs.2 _ (List.mem_of_getElem? hf)) e hx) hd
   simpa using this
  | none=>
   simp only [hp] at hs
   cases hu:P.underlying t with
   | none=>simp [hu] at hs
   | some d=>
    simp only [hu] at hs
    cases d with
    | bool=>
     obtain⟨b,rfl,rfl⟩:=DataW.trod_bool hu h
     simp only [flatD,Option.some.injEq] at hd
     subst hd
     exact⟨by simp [VPL,VP],by simp [plainV]⟩
    | int k=>
     obtain⟨b,rfl,rfl,hw⟩:=DataW.trod_int hu h
     simp only [flatD,Option.some.injEq] at hd
     subst hd
     exact⟨by simp [VPL,VP],by simp [plainV]⟩
    | string=>
     obtain⟨⟨⟨s⟩⟩,rfl,rfl,hw⟩:=DataW.trod_string hu h
     simp only [flatD,Option.some.injEq] at hd
     subst hd
     exact⟨by simp [VPL,VP],by simp [plainV]⟩
    | slice e=>
     rcases DataW.trod_slice hu h with ⟨rfl,rfl⟩ | ⟨a,len,cap,elems,rest,n',rfl,rfl,rfl,_⟩
     ·simp [flatD] at hd
     ·simp [flatD] at hd
    | _=>simp [basic] at hs
end
end Go.Proofs.YtkegmchjobphdaaGreatDoor.Y
namespace Go.Proofs.YtkegmchjobphdaaGreatDoor.Y
open Go
theorem mapM_mono {α β:Type} {f g:α→Option β}:∀ {l:List α} {r:List β},(∀ x∈l,∀ y,f x=some y→g x=some y)→l.mapM f=some r→l.mapM g=some r
 | [],r,_,h=>by simpa using h
 | x::l,r,hfg,h=>by
  simp only [List.mapM_cons,Option.bind_eq_bind,Option.bind_eq_some_iff,Option.pure_def,Option.some.injEq] at h ⊢
  obtain⟨y,h1,ys,h2,h3⟩:=h
  exact⟨y,hfg x (by simp) y h1,ys,mapM_mono (fun z hz=>hfg z (by simp [hz])) h2,h3⟩
def Kept (W W':World):Prop:=∀ (b:Nat) (o:Obj),W.heap[b]?=some o→W'.heap[b]?=some o
section
variable {H:Type} {enc:TypeId × Value→H} {P:Program} {W W':World} {sp':Nat→Bool} {held:Bool}
theorem Kept.cell (hk:Kept W W') {a:Addr} {v:Value} (h:W.cell? a=some v):W'.cell? a=some v:=by
 unfold World.cell? at h ⊢
 split at h
 ·rename_i c t z hb
  rw [hk _ _ hb]
  exact h
 ·cases h
theorem Kept.cells (hk:Kept W W') {a:Addr} {n:Nat} {cs:List Value} (h:W.cells? 0 a n=some cs):W'.cells? 0 a n=some cs:=by
 unfold World.cells? at h ⊢
 rw [if_pos (Nat.zero_le _)] at h ⊢
 exact mapM_mono (fun _ _ _ hx=>hk.cell hx) h
theorem trod_kept (hk:Kept W W') (hsp:∀ b,b<W.heap.size→sp' b=true):∀ (m:Nat) (t:TypeId) (n:Nat) (cs:List Value) (x:DataW H × List MemPlace),supp P m t=true→DataW.trod enc P W 0 (fun _=>true) held n t cs=some x→DataW.trod enc P W' 0 sp' held n t cs=some x
 | 0,_,_,_,_,hs,_=>by simp [supp] at hs
 | m+1,t,0,cs,x,hs,h=>by simp [DataW.trod] at h
 | m+1,t,n+1,cs,x,hs,h=>by
  have ih:=trod_kept hk hsp m
  simp only [supp] at hs
  cases hu:P.underlying t with
  | none=>
   have hp:partsOf P t=none:=by simp [partsOf,hu]
   simp [hp,hu] at hs
  | some d=>
   cases d with
   | struct fs=>
    have hp:partsOf P t=some (fs.toList.map fun f=>(f.type,f.offset)):=by simp [partsOf,hu]
    simp only [hp,Bool.and_eq_true,List.all_eq_true] at hs
    unfold DataW.trod at h ⊢
    rw [hu] at h ⊢
    simp only [] at h ⊢
    split at h
    ·rename_i hl
     rw [if_pos hl]
     rw [Option.map_eq_some_iff] at h ⊢
     obtain⟨xs,h1,h2⟩:=h
     exact⟨xs,mapM_mono (fun f hf y hy=>ih _ _ _ _ (hs.2 (f.type,f.offset) (List.mem_map_of_mem hf)) hy) h1,h2⟩
    ·cases h
   | array k e=>
    have hp:partsOf P t=some ((List.range k).map fun i=>(e,i * P.cellsOf e)):=by simp [partsOf,hu]
    simp only [hp,Bool.and_eq_true,List.all_eq_true] at hs
    unfold DataW.trod at h ⊢
    rw [hu] at h ⊢
    simp only [] at h ⊢
    split at h
    ·rename_i hl
     rw [if_pos hl]
     rw [Option.map_eq_some_iff] at h ⊢
     obtain⟨xs,h1,h2⟩:=h
     exact⟨xs,mapM_mono (fun i hi y hy=>ih _ _ _ _ (hs.2 (e,i * P.cellsOf e) (List.mem_map_of_mem hi)) hy) h1,h2⟩
    ·cases h
   | bool=>
    obtain⟨b,rfl,rfl⟩:=DataW.trod_bool hu h
    unfold DataW.trod;rw [hu]
   | int k=>
    obtain⟨b,rfl,rfl,hw⟩:=DataW.trod_int hu h
    unfold DataW.trod;rw [hu];simp [hw]
   | string=>
    obtain⟨s,rfl,rfl,hw⟩:=DataW.trod_string hu h
    unfold DataW.trod;rw [hu];simp [hw]
   | slice e=>
    have hp:partsOf P t=none:=by simp [partsOf,hu]
    simp only [hp,hu,Bool.and_eq_true,decide_eq_true_eq] at hs
    rcases DataW.trod_slice hu h with ⟨rfl,rfl⟩ | ⟨a,len,cap,_,_,_,_,rfl,_⟩
    ·unfold DataW.trod;rw [hu];rfl
    unfold DataW.trod at h ⊢
    rw [hu] at h ⊢
    simp only [if_true] at h ⊢
    split at h
    rotate_left
    ·cases h
    rename_i hc
    rw [if_pos hc]
    rw [Option.bind_eq_some_iff] at h ⊢
    obtain⟨elems,h1,h2⟩:=h
    rw [Option.map_eq_some_iff] at h2
    obtain⟨rest,h2,h3⟩:=h2
    have el:∀ i y,(W.cells? 0 (a.add (i * P.cellsOf e)) (P.cellsOf e)).bind (DataW.trod enc P W 0 (fun _=>true) held n e)=some y→(W'.cells? 0 (a.add (i * P.cellsOf e)) (P.cellsOf e)).bind (DataW.trod enc P W' 0 sp' held n e)=some y:=by
     intro i y hy
     rw [Option.bind_eq_some_iff] at hy ⊢
     obtain⟨cs',g1,g2⟩:=hy
     exact⟨cs',hk.cells g1,ih _ _ _ _ hs.2 g2⟩
    refine⟨elems,mapM_mono (fun i _ y hy=>el i y hy) h1,?_⟩
    rw [Option.map_eq_some_iff]
    refine⟨rest,?_,h3⟩
    by_cases hd:cap - len=0
    ·rw [hd] at h2 ⊢
     simp at h2
     subst h2
     cases sp' a.block <;> simp
    ·have hb:a.block<W.heap.size:=by
      have hl:=mapM_some_length h2
      rw [List.length_range] at hl
      have:=mapM_some_get h2 0 0 (by rw [List.getElem?_eq_getElem (by simp;omega)];simp)
      rw [List.getElem?_eq_getElem (by omega),Option.bind_eq_some_iff] at this
      obtain⟨cs',g1,_⟩:=this
      obtain⟨c,t',z,g3,_⟩:=cells_take hs.1 g1
      have hblk:(a.add ((len+0) * P.cellsOf e)).block=a.block:=by unfold Addr.add;split <;> rfl
      rw [hblk] at g3
      exact(Array.getElem?_eq_some_iff.1 g3).1
     rw [if_pos (hsp _ hb)]
     exact mapM_mono (fun i _ y hy=>el (len+i) y hy) h2
   | _=>
    have hp:partsOf P t=none:=by simp [partsOf,hu]
    simp [hp,hu,basic] at hs
theorem trodAll_kept (hk:Kept W W') (hsp:∀ b,b<W.heap.size→sp' b=true) (m:Nat):∀ {ts:List TypeId} {vs:List Value} {ds:List (DataW H)} {ps:List MemPlace},ts.all (supp P m)=true→DataW.TrodAll enc P W 0 (fun _=>true) held ts vs ds ps→DataW.TrodAll enc P W' 0 sp' held ts vs ds ps
 | [],[],[],ps,_,h=>h
 | t::ts,v::vs,d::ds,ps,hs,h=>by
  simp only [List.all_cons,Bool.and_eq_true] at hs
  obtain⟨p,q,⟨fuel,h1⟩,h2,h3⟩:=h
  exact⟨p,q,⟨fuel,trod_kept hk hsp m _ _ _ _ hs.1 h1⟩,trodAll_kept hk hsp m hs.2 h2,h3⟩
 | [],[],_::_,ps,_,h=>by simp [DataW.TrodAll] at h
 | [],_::_,_,ps,_,h=>by simp [DataW.TrodAll] at h
 | _::_,[],_,ps,_,h=>by simp [DataW.TrodAll] at h
 | _::_,_::_,[],ps,_,h=>by simp [DataW.TrodAll] at h
def ArgT (P:Program) (m:Nat) (t:TypeId) (x:PV):Prop:=match partsOf P t with
 | some _=>∃ xs,x=.agg xs∧TyT P m t xs
 | none=>TyT P m t [x]
def ArgsT (P:Program) (m:Nat):List TypeId→List PV→Prop
 | [],xs=>xs=[]
 | t::ts,xs=>∃ x r,xs=x::r∧ArgT P m t x∧ArgsT P m ts r
def fzOf (W:World):Fzn:=fun b=>match W.heap[b]? with
 | some (.cells c _ _)=>some c.toList
 | _=>none
theorem fzOf_all (W:World):AllCells (fzOf W) W:=fun b c t z h=>by simp [fzOf,h]
theorem fzOf_some {b:Nat} {arr:List Value} (h:fzOf W b=some arr):∃ c t z,W.heap[b]?=some (.cells c t z)∧arr=c.toList:=by
 unfold fzOf at h
 split at h
 ·rename_i c t z hb
  injection h with h
  exact⟨c,t,z,hb,h.symm⟩
 ·cases h
theorem arg_of {m:Nat} {base:Nat} {t:TypeId} {v:Value} {d:DataW H} {ps:List MemPlace} (hs:supp P m t=true) (hval:Value.okWide P W .any base t v) (h:DataW.Trod enc P W 0 (fun _=>true) true t v d ps):∃ x,VP (fzOf W) x v∧ArgT P m t x:=by
 obtain⟨fuel,h⟩:=h
 obtain⟨xs,h1,h2,h3⟩:=typed_of_trod (fzOf_all W) m t fuel _ _ hs h
 unfold Value.okWide at hval
 cases hp:partsOf P t with
 | some l=>
  have:∃ cs,v=.agg cs:=by
   unfold partsOf at hp
   split at hp
   ·rename_i fs hu;simp only [hu] at hval;obtain⟨cs,h,_⟩:=hval;exact⟨cs,h⟩
   ·rename_i k e hu;simp only [hu] at hval;obtain⟨cs,h,_⟩:=hval;exact⟨cs,h⟩
   ·cases hp
  obtain⟨cs,rfl⟩:=this
  exact⟨.agg xs,by simp only [VP];exact⟨cs,rfl,h1⟩,by simp only [ArgT,hp];exact⟨xs,rfl,h3⟩⟩
 | none=>
  have hv:v.cells=#[v]:=by
   cases m with
   | zero=>simp [supp] at hs
   | succ m=>
    simp only [supp,hp] at hs
    cases hu:P.underlying t with
    | none=>simp [hu] at hs
    | some d=>
     simp only [hu] at hs hval
     cases d with
     | struct fs=>simp [partsOf,hu] at hp
     | array k e=>simp [partsOf,hu] at hp
     | bool=>cases v <;> simp_all [Cell.okWide,Cell.ok,Value.cells]
     | int k=>cases v <;> simp_all [Cell.okWide,Cell.ok,Value.cells]
     | string=>cases v <;> simp_all [Cell.okWide,Cell.ok,Value.cells]
     | slice e=>cases v <;> simp_all [Cell.okWide,Cell.ok,Value.cells]
     | _=>simp [basic] at hs
  rw [hv] at h1
  obtain⟨x,rfl,h4⟩:∃ x,xs=[x]∧VP (fzOf W) x v:=by
   match xs,h1 with
   | [],h1=>simp [VPL] at h1
   | x::r,h1=>
    simp only [VPL] at h1
    obtain⟨u,us,e,g1,g2⟩:=h1
    simp only [List.cons.injEq] at e
    obtain⟨rfl,rfl⟩:=e
    match r,g2 with
    | [],_=>exact⟨x,rfl,g1⟩
    | y::r,g2=>simp [VPL] at g2
  exact⟨x,h4,by simp only [ArgT,hp];exact h3⟩
theorem args_of {m base:Nat}:∀ {ts:List TypeId} {vs:List Value} {ds:List (DataW H)} {ps:List MemPlace},ts.all (supp P m)=true→(∀ (j:Nat) t v,ts[j]?=some t→vs[j]?=some v→Value.okWide P W .any base t v)→DataW.TrodAll enc P W 0 (fun _=>true) true ts vs ds ps →
  ∃ xs,VPL (fzOf W) xs vs∧ArgsT P m ts xs∧ds.length=ts.length
 | [],[],[],ps,_,_,_=>⟨[],by simp [VPL],rfl,rfl⟩
 | t::ts,v::vs,d::ds,ps,hs,hv,h=>by
  simp only [List.all_cons,Bool.and_eq_true] at hs
  obtain⟨p,q,h1,h2,h3⟩:=h
  obtain⟨x,g1,g2⟩:=arg_of hs.1 (hv 0 t v rfl rfl) h1
  obtain⟨xs,k1,k2,k3⟩:=args_of hs.2 (fun j t v ht hv'=>hv (j+1) t v ht hv') h2
  exact⟨x::xs,by simp only [VPL];exact⟨v,vs,rfl,g1,k1⟩,⟨x,xs,rfl,g2,k2⟩,by simp [k3]⟩
 | [],[],_::_,ps,_,_,h=>by simp [DataW.TrodAll] at h
 | [],_::_,_,ps,_,_,h=>by simp [DataW.TrodAll] at h
 | _::_,[],_,ps,_,_,h=>by simp [DataW.TrodAll] at h
 | _::_,_::_,[],ps,_,_,h=>by simp [DataW.TrodAll] at h
end
def gtOK (P:Program) (m:Nat):List (Nat × List PV)→List (String × DataW Unit)→Prop
 | [],_=>True
 | (g,cs)::r,(n,d)::r'=>P.globalNamed n=some g∧(∃ t,(P.globals[g]?).map (·.type)=some t∧supp P m t=true)∧flatD d=some cs∧gtOK P m r r'
 | _::_,[]=>False
theorem glob_of_laid {P:Program} {m:Nat} {W:World}:∀ {gt:List (Nat × List PV)} {laid:List (String × DataW Unit)} {ps:List MemPlace},gtOK P m gt laid→DataW.LaidVars P W laid ps→∀ g cs,gget gt g=some cs→GlobV (fzOf W) g cs
 | [],_,_,_,_,g,cs,h=>by simp [gget] at h
 | (g',cs')::r,[],_,hg,_,g,cs,h=>by simp [gtOK] at hg
 | (g',cs')::r,(n,d)::r',ps,hg,hl,g,cs,h=>by
  obtain⟨h1,⟨t,h2,h3⟩,h4,h5⟩:=hg
  obtain⟨g0,t0,cs0,fuel,p,q,k1,k2,k3,k4,k5,k6⟩:=hl
  rw [h1] at k1
  injection k1 with k1
  subst k1
  rw [h2] at k2
  injection k2 with k2
  subst k2
  simp only [gget] at h
  split at h
  ·rename_i he
   have he:=Nat.eq_of_beq_eq_true he
   subst he
   injection h with h
   subst h
   obtain⟨g1,g2⟩:=laid_of_trod (fz:=fzOf W) m t fuel _ _ _ h3 k4 h4
   have hb:∃ ty z,W.heap[g']?=some (.cells cs0 ty z):=by
    unfold World.var? at k3
    rw [h1] at k3
    simp only [Option.bind_some] at k3
    split at k3
    ·rename_i c ty z hb
     injection k3 with k3
     subst k3
     exact⟨ty,z,hb⟩
    ·cases k3
   obtain⟨ty,z,hb⟩:=hb
   exact⟨by simp only [VP];exact⟨g',0,cs0.toList,cs0.toList,rfl,fzOf_all W _ _ _ _ hb,g1,[],[],by simp,rfl,g2⟩,cs0.toList,fzOf_all W _ _ _ _ hb,VPL_length g1⟩
  ·exact glob_of_laid h5 k5 g cs h
section
variable {cx:Cx}
theorem calls_of_pure {H:Type} {enc:TypeId × Value→H} {W:World} {f:FuncId} {fn:Func} {c:Code} {m base:Nat} {args:Array Value} {ds:List (DataW H)} {ps:List MemPlace}
  (hf : cx.P.funcs[f]? = some fn) (hname : (fn.name == "runtime.NumGoroutine") = false) (hb : fn.body = some c) (hs : fn.params.toList.all (supp cx.P m) = true)
  (hpure:∀ xs,ArgsT cx.P m fn.params.toList xs→Pure cx f xs (·=.ret [.bool true]))
  (hval:∀ (j:Nat) t v,fn.params[j]?=some t→args[j]?=some v→Value.okWide cx.P W .any base t v)
  (hA:DataW.TrodAll enc cx.P W 0 (fun _=>true) true fn.params.toList args.toList ds ps)
  (hglob:∀ g cs,gget cx.gt g=some cs→GlobV (fzOf W) g cs) :
  Calls cx.P f args W fun e W'=>e=.returned (.bool true)∧W'.os=W.os∧W'.output=W.output∧∀ k,k<W.heap.size→W'.heap[k]?=W.heap[k]?:=by
 obtain⟨xs,h1,h2,_⟩:=args_of hs (fun j t v ht hv=>hval j t v (by simpa using ht) (by simpa using hv)) hA
 have hR:R cx ⟨fun _=>none,fzOf W⟩ ⟨0,[]⟩ W:=by
  refine⟨hglob,fun _ _=>rfl,fun b arr hb=>?_,fun n o hn=>by simp [lget] at hn,fun n o q hn=>by simp [lget] at hn,fun n o m p q q' hn=>by simp [lget] at hn⟩
  obtain⟨c,t,z,g1,rfl⟩:=fzOf_some hb
  exact⟨t,z,g1⟩
 have key:∀ e w',Post cx ⟨fun _=>none,fzOf W⟩ ⟨0,[]⟩ W (EndP (·=.ret [.bool true])) e w'→e=.returned (.bool true)∧w'.os=W.os∧w'.output=W.output∧∀ k,k<W.heap.size→w'.heap[k]?=W.heap[k]?:=by
  intro e w' hP
  obtain⟨r,Γ',hq,_,hE,_,hT,_⟩:=pure_post hR hP
  subst hq
  obtain⟨v',rfl,hv⟩:=hE
  simp only [VR,VP] at hv
  subst hv
  exact⟨rfl,hT.os,hT.output,fun k hk=>hT.kept k hk own_nil⟩
 have hrun:=run_enter hf hname hb args W
 rcases hpure xs h2 ⟨fun _=>none,fzOf W⟩ W args.toList hR (VRL_p.2 h1) with ⟨_,h4⟩ | ⟨v',w',h4,_⟩
 ·exact h4.mono key
 ·rw [hrun] at h4
  injection h4 with h4
  cases h4
theorem post_of_kept {H:Type} {enc:TypeId × Value→H} {W W':World} {fn:Func} {s:ChangeSpec} {m:Nat} {bt:TypeId} {apart fresh handsOn:Bool} {args:Array Value} {ds gs:List (DataW H)} {before:List MemPlace}
  (hs:fn.params.toList.all (supp cx.P m)=true) (hvars:s.vars=[]) (hres:fn.resultTypes=#[bt]) (hbt:cx.P.underlying bt=some .bool)
  (hfn:∀ ds:List (DataW H),ds.length=fn.params.toList.length→s.fn H ds={ results:=[.lit (.bool true)],args:=ds })
  (hW:DataW.Whole enc cx.P fn.params.toList s.vars apart W args.toList ds gs before) (hlen:ds.length=fn.params.toList.length)
  (hos:W'.os=W.os) (hout:W'.output=W.output) (hkept:∀ k,k<W.heap.size→W'.heap[k]?=W.heap[k]?) :
  s.post enc cx.P fn apart fresh handsOn false W args (.bool true) W':=by
 have hk:Kept W W':=fun b o hb=>by rw [hkept b (Array.getElem?_eq_some_iff.1 hb).1];exact hb
 have hW':=hW
 obtain⟨p,q,h1,h2,_,_,_⟩:=hW'
 rw [hvars] at h2
 obtain⟨rfl,rfl⟩:=Go.ChangeShapes.trodVars_none h2
 have e:s.fn H (ds++[])={ results:=[.lit (.bool true)],args:=ds }:=by rw [List.append_nil];exact hfn ds hlen
 refine⟨ds,[],before,[],p,[],hW,?_,?_,?_,?_,fun h=>by cases h⟩
 ·rw [e,hres]
  exact Go.ChangeShapes.trodAll_mk1 (Go.RowKit.shut_bool hbt true)
 ·rw [e]
  exact trodAll_kept hk (fun b hb=>by simpa using hb) m hs h1
 ·rw [e,hvars]
  rfl
 ·refine⟨hos,hout,fun i hi=>?_⟩
  rw [hkept i hi]
  have:=Array.getElem?_eq_getElem hi
  rw [this]
  cases W.heap[i] <;> simp
end
end Go.Proofs.YtkegmchjobphdaaGreatDoor.Y
namespace Go.Proofs.YtkegmchjobphdaaGreatDoor
open Go Y
set_option maxRecDepth 100000
set_option maxHeartbeats 4000000
theorem ty_u8 {m:Nat} {xs:List PV} (h:TyT Tryz.prog (m+1) 5 xs):∃ b:UInt8,xs=[u8 b]:=by
 have hp:partsOf Tryz.prog 5=none:=by simp [partsOf,Tryz.underlying5]
 simp only [TyT,hp,Tryz.underlying5] at h
 obtain⟨n,rfl,hw⟩:=h
 have:=bounds_u8 hw
 refine⟨UInt8.ofNat n.toNat,?_⟩
 have e:((UInt8.ofNat n.toNat).toNat:Int)=n:=by
  simp
  omega
 rw [u8,e]
theorem lift_list {α:Type} {f:α→PV} {P:α→Prop} {ys:List PV} (h:∀ y∈ys,∃ a,y=f a∧P a):∃ zs:List α,ys=zs.map f∧∀ z∈zs,P z:=by
 induction ys with
 | nil=>exact⟨[],rfl,by simp⟩
 | cons y r ih=>
  obtain⟨a,rfl,ha⟩:=h y (by simp)
  obtain⟨zs,rfl,hz⟩:=ih fun z hz=>h z (by simp [hz])
  exact⟨a::zs,rfl,fun z hm=>by rcases List.mem_cons.1 hm with rfl | hm;exact ha;exact hz z hm⟩
theorem lift_lists {α:Type} {f:α→List PV} {P:α→Prop} {ys:List (List PV)} (h:∀ y∈ys,∃ a,y=f a∧P a):∃ zs:List α,ys=zs.map f∧∀ z∈zs,P z:=by
 induction ys with
 | nil=>exact⟨[],rfl,by simp⟩
 | cons y r ih=>
  obtain⟨a,rfl,ha⟩:=h y (by simp)
  obtain⟨zs,rfl,hz⟩:=ih fun z hz=>h z (by simp [hz])
  exact⟨a::zs,rfl,fun z hm=>by rcases List.mem_cons.1 hm with rfl | hm;exact ha;exact hz z hm⟩
theorem ty_int {m:Nat} {xs:List PV} (h:TyT Tryz.prog (m+1) 3 xs):∃ n,xs=[i64 n]∧-9223372036854775808≤n∧n≤9223372036854775807:=by
 have hp:partsOf Tryz.prog 3=none:=by simp [partsOf,Tryz.underlying3]
 simp only [TyT,hp,Tryz.underlying3] at h
 obtain⟨n,rfl,hw⟩:=h
 exact⟨n,rfl,bounds_i64 hw⟩
theorem ty_str {m:Nat} {xs:List PV} (h:TyT Tryz.prog (m+1) 9 xs):∃ s,xs=[.str s]∧s.length≤9223372036854775807:=by
 have hp:partsOf Tryz.prog 9=none:=by simp [partsOf,Tryz.underlying9]
 simp only [TyT,hp,Tryz.underlying9] at h
 obtain⟨n,rfl,hl⟩:=h
 exact⟨n,rfl,hl⟩
theorem ty_bool {m:Nat} {xs:List PV} (h:TyT Tryz.prog (m+1) 4 xs):∃ b,xs=[.bool b]:=by
 have hp:partsOf Tryz.prog 4=none:=by simp [partsOf,Tryz.underlying4]
 simp only [TyT,hp,Tryz.underlying4] at h
 exact h
theorem arg_plain {m:Nat} {t:TypeId} {x:PV} (hp:partsOf Tryz.prog t=none) (h:ArgT Tryz.prog m t x):TyT Tryz.prog m t [x]:=by
 simpa only [ArgT,hp] using h
theorem ty_arr3 {m:Nat} {xs:List PV} (h:TyT Tryz.prog (m+2) 24 xs):∃ a b c:UInt8,xs=[u8 a,u8 b,u8 c]:=by
 have hp:partsOf Tryz.prog 24=some [(5,0),(5,1),(5,2)]:=by kernel_rfl
 rw [TyT] at h
 simp only [hp] at h
 obtain⟨x1,_,rfl,_,h1,x2,_,rfl,_,h2,x3,_,rfl,_,h3,rfl⟩:=h
 obtain⟨a,rfl⟩:=ty_u8 h1
 obtain⟨b,rfl⟩:=ty_u8 h2
 obtain⟨c,rfl⟩:=ty_u8 h3
 exact⟨a,b,c,rfl⟩
theorem ty_piece {m:Nat} {xs:List PV} (h:TyT Tryz.prog (m+3) 143 xs):∃ p:Pc,xs=p.cells:=by
 have hp:partsOf Tryz.prog 143=some [(5,0),(5,1),(5,2),(5,3),(24,4)]:=by kernel_rfl
 rw [TyT] at h
 simp only [hp] at h
 obtain⟨x1,_,rfl,_,h1,x2,_,rfl,_,h2,x3,_,rfl,_,h3,x4,_,rfl,_,h4,x5,_,rfl,_,h5,rfl⟩:=h
 obtain⟨a,rfl⟩:=ty_u8 h1
 obtain⟨b,rfl⟩:=ty_u8 h2
 obtain⟨c,rfl⟩:=ty_u8 h3
 obtain⟨d,rfl⟩:=ty_u8 h4
 obtain⟨x,y,z,rfl⟩:=ty_arr3 h5
 exact⟨⟨a,b,c,d,x,y,z⟩,rfl⟩
theorem ty_pieces {m:Nat} {xs:List PV} (h:TyT Tryz.prog (m+4) 23 xs):∃ l:List Pc,xs=[.lsts 7 (l.map Pc.cells)]∧l.length≤9223372036854775807:=by
 have hp:partsOf Tryz.prog 23=none:=by simp [partsOf,Tryz.underlying23]
 have hc:Tryz.prog.cellsOf 143=7:=by kernel_rfl
 rw [TyT] at h
 simp only [hp,Tryz.underlying23,hc] at h
 obtain⟨ys,rfl,hn,hy⟩:=h
 obtain⟨l,rfl,_⟩:=lift_lists (f:=Pc.cells) (P:=fun _=>True) fun y hy'=>by
  obtain⟨p,hp⟩:=ty_piece (hy y hy')
  exact⟨p,hp,trivial⟩
 rw [List.length_map] at hn
 exact⟨l,rfl,hn⟩
theorem ty_part {m:Nat} {xs:List PV} (h:TyT Tryz.prog (m+5) 26 xs):∃ p:Pt,xs=p.cells∧p.cases.length≤9223372036854775807:=by
 have hp:partsOf Tryz.prog 26=some [(5,0),(5,1),(5,2),(5,3),(4,4),(23,5),(24,6)]:=by kernel_rfl
 rw [TyT] at h
 simp only [hp] at h
 obtain⟨x1,_,rfl,_,h1,x2,_,rfl,_,h2,x3,_,rfl,_,h3,x4,_,rfl,_,h4,x5,_,rfl,_,h5,x6,_,rfl,_,h6,x7,_,rfl,_,h7,rfl⟩:=h
 obtain⟨a,rfl⟩:=ty_u8 h1
 obtain⟨b,rfl⟩:=ty_u8 h2
 obtain⟨c,rfl⟩:=ty_u8 h3
 obtain⟨d,rfl⟩:=ty_u8 h4
 obtain⟨g,rfl⟩:=ty_bool h5
 obtain⟨l,rfl,hl⟩:=ty_pieces h6
 obtain⟨x,y,z,rfl⟩:=ty_arr3 h7
 exact⟨⟨a,b,c,d,g,l,x,y,z⟩,rfl,hl⟩
theorem ty_parts {m:Nat} {xs:List PV} (h:TyT Tryz.prog (m+6) 22 xs):∃ l:List Pt,xs=[.lsts 9 (l.map Pt.cells)]∧l.length≤9223372036854775807∧∀ p∈l,p.cases.length≤9223372036854775807:=by
 have hp:partsOf Tryz.prog 22=none:=by simp [partsOf,Tryz.underlying22]
 have hc:Tryz.prog.cellsOf 26=9:=by kernel_rfl
 rw [TyT] at h
 simp only [hp,Tryz.underlying22,hc] at h
 obtain⟨ys,rfl,hn,hy⟩:=h
 obtain⟨l,rfl,hl⟩:=lift_lists (f:=Pt.cells) (P:=fun p=>p.cases.length≤9223372036854775807) fun y hy'=>ty_part (hy y hy')
 rw [List.length_map] at hn
 exact⟨l,rfl,hn,hl⟩
theorem arg_draft38 {m:Nat} {x:PV} (h:ArgT Tryz.prog (m+7) 28 x):∃ d:Dp,x=.agg d.cells∧d.ok:=by
 have hp:partsOf Tryz.prog 28=some [(5,0),(5,1),(22,2),(26,3),(22,12),(4,13)]:=by kernel_rfl
 simp only [ArgT,hp] at h
 obtain⟨xs,rfl,h⟩:=h
 rw [TyT] at h
 simp only [hp] at h
 obtain⟨x1,_,rfl,_,h1,x2,_,rfl,_,h2,x3,_,rfl,_,h3,x4,_,rfl,_,h4,x5,_,rfl,_,h5,x6,_,rfl,_,h6,rfl⟩:=h
 obtain⟨a,rfl⟩:=ty_u8 h1
 obtain⟨b,rfl⟩:=ty_u8 h2
 obtain⟨l,rfl,l1,l2⟩:=ty_parts h3
 obtain⟨c,rfl,_⟩:=ty_part h4
 obtain⟨k,rfl,k1,k2⟩:=ty_parts h5
 obtain⟨g,rfl⟩:=ty_bool h6
 exact⟨⟨a,b,l,c,k,g⟩,rfl,l1,k1,l2,k2⟩
theorem ty_strs {m:Nat} {xs:List PV} (h:TyT Tryz.prog (m+2) 44 xs):∃ l:List (List UInt8),xs=[strs l]:=by
 have hp:partsOf Tryz.prog 44=none:=by simp [partsOf,Tryz.underlying44]
 have hc:Tryz.prog.cellsOf 9=1:=by kernel_rfl
 rw [TyT] at h
 simp only [hp,Tryz.underlying44,hc] at h
 obtain⟨ys,rfl,_,hy⟩:=h
 obtain⟨l,rfl,_⟩:=lift_list (f:=PV.str) (P:=fun _=>True) fun y hy'=>by
  obtain⟨s,hs,_⟩:=ty_str (hy y hy')
  simp at hs
  exact⟨s,hs,trivial⟩
 exact⟨l,rfl⟩
theorem ty_nodesR {m:Nat} {xs:List PV} (h:TyT Tryz.prog (m+1) 45 xs):∃ l:List (List PV),xs=[.lsts 3 l]:=by
 have hp:partsOf Tryz.prog 45=none:=by simp [partsOf,Tryz.underlying45]
 have hc:Tryz.prog.cellsOf 72=3:=by kernel_rfl
 rw [TyT] at h
 simp only [hp,Tryz.underlying45,hc] at h
 obtain⟨ys,rfl,_,_⟩:=h
 exact⟨ys,rfl⟩
theorem ty_utilsR {m:Nat} {xs:List PV} (h:TyT Tryz.prog (m+1) 47 xs):∃ l:List (List PV),xs=[.lsts 2 l]:=by
 have hp:partsOf Tryz.prog 47=none:=by simp [partsOf,Tryz.underlying47]
 have hc:Tryz.prog.cellsOf 78=2:=by kernel_rfl
 rw [TyT] at h
 simp only [hp,Tryz.underlying47,hc] at h
 obtain⟨ys,rfl,_,_⟩:=h
 exact⟨ys,rfl⟩
theorem ty_uint {m:Nat} {xs:List PV} (h:TyT Tryz.prog (m+1) 46 xs):∃ n,xs=[.int .u64 n]:=by
 have hp:partsOf Tryz.prog 46=none:=by simp [partsOf,Tryz.underlying46]
 simp only [TyT,hp,Tryz.underlying46] at h
 obtain⟨n,rfl,_⟩:=h
 exact⟨n,rfl⟩
theorem ty_infl {m:Nat} {xs:List PV} (h:TyT Tryz.prog (m+2) 49 xs):∃ a N dd U,xs=[i64 a, .lsts 3 N, .int .u64 dd, .lsts 2 U]:=by
 have hp:partsOf Tryz.prog 49=some [(3,0),(45,1),(46,2),(47,3)]:=by kernel_rfl
 rw [TyT] at h
 simp only [hp] at h
 obtain⟨x1,_,rfl,_,h1,x2,_,rfl,_,h2,x3,_,rfl,_,h3,x4,_,rfl,_,h4,rfl⟩:=h
 obtain⟨a,rfl,_⟩:=ty_int h1
 obtain⟨N,rfl⟩:=ty_nodesR h2
 obtain⟨d,rfl⟩:=ty_uint h3
 obtain⟨U,rfl⟩:=ty_utilsR h4
 exact⟨a,N,d,U,rfl⟩
theorem arg_ground {m:Nat} {x:PV} (h:ArgT Tryz.prog (m+3) TGr x):∃ v:List (List UInt8) × Int × List (List PV) × Int × List (List PV),x=.agg [strs v.1,i64 v.2.1, .lsts 3 v.2.2.1, .int .u64 v.2.2.2.1, .lsts 2 v.2.2.2.2]:=by
 have hp:partsOf Tryz.prog TGr=some [(44,0),(49,1)]:=by kernel_rfl
 simp only [ArgT,hp] at h
 obtain⟨xs,rfl,h⟩:=h
 rw [TyT] at h
 simp only [hp] at h
 obtain⟨x1,_,rfl,_,h1,x2,_,rfl,_,h2,rfl⟩:=h
 obtain⟨ns,rfl⟩:=ty_strs h1
 obtain⟨a,N,d,U,rfl⟩:=ty_infl h2
 exact⟨(ns,a,N,d,U),rfl⟩
theorem own:ownKnob Tryz.prog.godebug=none:=by kernel_rfl
abbrev laidP : List (String × DataW Unit) := [("math/bits.deBruijn32tab", Rows.laid_math_bits_deBruijn32tab), ("math/bits.deBruijn64tab", Rows.laid_math_bits_deBruijn64tab), ("internal/strconv.uint64pow10", Rows.laid_internal_strconv_uint64pow10), ("haruspex/lex.keys", Rows.laid_haruspex_lex_keys), ("haruspex/lex.marks", Rows.laid_haruspex_lex_marks)]
theorem door_metP (os:Os) (args:Array Value):laidMetH Tryz.prog laidP ((World.laidAll Tryz.prog os laidP).forCall (fun _ _=>0) ⟨#[],args,[]⟩).memory:=by
 rw [MakeChecks.laidMetH_plain _ _ _ (by kernel_rfl)]
 exact laidMet_laidAll _ (by kernel_rfl) (by kernel_rfl)
theorem gt_okP (r : List (String × DataW Unit)) : gtOK Tryz.prog 4 cx.gt (("haruspex/lex.keys", Rows.laid_haruspex_lex_keys) :: ("haruspex/lex.marks", Rows.laid_haruspex_lex_marks) :: r) :=
 ⟨by kernel_rfl,⟨297,by kernel_rfl,by kernel_rfl⟩,rfl,by kernel_rfl,⟨298,by kernel_rfl,by kernel_rfl⟩,rfl,trivial⟩
theorem glob_okP {W:World} (h:laidMetH Tryz.prog laidP W):∀ g cs,gget cx.gt g=some cs→GlobV (fzOf W) g cs:=by
 rw [MakeChecks.laidMetH_plain _ _ _ (by kernel_rfl)] at h
 obtain⟨ps,h,_⟩:=h
 obtain⟨_,_,_,_,_,_,_,_,_,_,h,_⟩:=h
 obtain⟨_,_,_,_,_,_,_,_,_,_,h,_⟩:=h
 obtain⟨_,_,_,_,_,_,_,_,_,_,h,_⟩:=h
 exact glob_of_laid (gt_okP _) h
theorem groundFinds_pure:∀ xs,ArgsT Tryz.prog 8 Tryz.f4.params.toList xs→Pure cx 4 xs (·=.ret [.bool true]):=by
 intro xs h
 rw [Tryz.params4] at h
 obtain⟨x0,_,rfl,h0,x1,_,rfl,h1,x2,_,rfl,h2,x3,_,rfl,h3,rfl⟩:=h
 obtain⟨v0,rfl,g0⟩:=arg_draft38 h0
 obtain⟨v1,rfl⟩:=arg_ground h1
 obtain⟨v2,e2⟩:=ty_u8 (arg_plain (by simp [partsOf,Tryz.underlying5]) h2)
 injection e2 with e2
 subst e2
 obtain⟨v3,e3,_⟩:=ty_str (arg_plain (by simp [partsOf,Tryz.underlying9]) h3)
 injection e3 with e3
 subst e3
 exact groundFinds_c v0 v1.1 v1.2.1 v1.2.2.1 v1.2.2.2.1 v1.2.2.2.2 v2 v3 g0
theorem groundFinds_lifted (os:Os) (started:os.Started) (H:Type) (enc:TypeId × Value→H) :
  ReturnsInHanded {} Tryz.checked os 4 .any (fun w args=>(Rows.groundFindsSpec.pre enc Tryz.prog Tryz.f4 [] false w args∧laidMetH Tryz.prog laidP w)∧sizedMet enc Tryz.prog Tryz.f4 (OpenSpec.ofChange Rows.groundFindsSpec) false w args)
   (Rows.groundFindsSpec.post enc Tryz.prog Tryz.f4 false true false false):=by
 refine returnsInHanded_of_change_and (C:=Tryz.checked) (X:=fun w _=>laidMetH Tryz.prog laidP w) (fun _ _ _ hh h=>h.of_heap hh) own started (by kernel_rfl) Tryz.func4
  (ChangeSpec.witness_shaped (enc:=enc) (C:=Tryz.checked) (os:=os) (X:=fun w _=>laidMetH Tryz.prog laidP w) false (World.laidAll Tryz.prog os laidP) #[.agg #[.int .u8 0, .int .u8 0, .slice none 0 0, .int .u8 0, .int .u8 0, .int .u8 0, .int .u8 0, .bool false, .slice none 0 0, .int .u8 0, .int .u8 0, .int .u8 0, .slice none 0 0, .bool false], .agg #[.slice none 0 0, .int .i64 0, .slice none 0 0, .int .u64 0, .slice none 0 0], .int .u8 0, .string ⟨#[]⟩] 8 (World.laidAll_os _ _ _) (World.shaped_of_ZipB (by kernel_rfl) (by kernel_rfl)) (by kernel_rfl) (by kernel_rfl) (by kernel_rfl) (door_metP os _)) ?_
 intro W base args ds gs before hval hW _ _ hL _
 obtain⟨p,q,hA,hV,_⟩:=id hW
 have hs:Tryz.f4.params.toList.all (supp Tryz.prog 8)=true:=by kernel_rfl
 obtain⟨_,_,_,hlen⟩:=args_of hs (fun j t v ht hv=>hval j t v (by simpa using ht) (by simpa using hv)) hA
 refine(calls_of_pure (cx:=cx) Tryz.func4 (by kernel_rfl) rfl hs groundFinds_pure hval hA (glob_okP hL)).mono fun e W' ⟨he,h1,h2,h3⟩=>?_
 subst he
 exact⟨_,rfl,post_of_kept (cx:=cx) (m:=8) hs rfl (by kernel_rfl) Tryz.underlying4 (fun ds h=>by
  rw [Tryz.params4] at h
  match ds,h with
  | [_,_,_,_],_=>rfl) hW hlen h1 h2 h3⟩
theorem groundFinds_holds:Rows.GroundFindsSaid:=
 OpenClaim.holds_of_wide 4 Tryz.f4 rfl rfl rfl rfl rfl rfl rfl ⟨rfl,rfl,rfl,rfl,rfl⟩ rfl rfl rfl rfl rfl (by kernel_rfl) Tryz.func4 (by kernel_rfl)
  (of_decide_eq_true (by kernel_rfl)) (by unfold Func.isWrapper;first | (rw [if_pos (by decide +kernel)];kernel_rfl) | (rw [if_neg (by decide +kernel)];exact⟨rfl,rfl⟩))
  (fun os started H enc _=>groundFinds_lifted os started H enc)
theorem groundFinds_card:Rows.GroundFindsCardSaid:=
 Claim7.holds_tied_plain_at .later [] [.data, .data, .data, .data, .data] true (true, "b98e849cc45b36c37f5ad5d057ca5689126fc4a06d3e7f63054a04f637076709") true
  groundFinds_holds (fun _ h=>by cases h) (by kernel_rfl) (fun _ h=>by cases h) groundFinds_row_tie rfl ⟨rfl,rfl⟩ (by kernel_rfl) rfl
  (fun f fn hf hfn=>by
   obtain rfl : f = 4 := Option.some.inj ((show Tryz.prog.funcNamed "haruspex/haruspexlaw40.GroundFinds" = some 4 by kernel_rfl).symm.trans hf) |>.symm
   obtain rfl:fn=Tryz.f4:=(Option.some.inj (Tryz.func4.symm.trans hfn)).symm
   exact⟨by kernel_rfl,fun j t ht=>by
    have hall:(Tryz.f4.params.toList.all fun u=>!Tryz.prog.wantsStandIn u)=true:=by kernel_rfl
    exact(show Tryz.prog.wantsStandIn t=false by simpa using List.all_eq_true.1 hall t (by simpa using Array.mem_of_getElem? ht))⟩)
  (by kernel_rfl)
#print axioms groundFinds_card
end Go.Proofs.YtkegmchjobphdaaGreatDoor
